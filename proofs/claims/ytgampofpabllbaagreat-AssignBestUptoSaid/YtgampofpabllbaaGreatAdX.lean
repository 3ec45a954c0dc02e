/- Package admit: bounds as data; the walks of bounds and of what it hands back. Conditions: lists that read; a configuration that is right. -/
import Derived.Test.YtgampofpabllbaaGreatRtSQ
import Derived.Test.YtgampofpabllbaaGreatDraw
namespace Go.Proofs.YtgampofpabllbaaGreat
open Go.RowKit Go.Shelf
attribute [local go_sem] Oper.semAt_some

/-- A task's bound, or why it has none. -/
def bdF (mn sw : Int) (ts : List Tk) (ls : List Ln) (hs : List Th) (k : Nat) : Int × Int := boundR mn sw ts ls hs (ts.getD k tk0)
def bdS (f : Nat → Int × Int) (k : Nat) : List (Int × Int) := (List.range k).map f
theorem bdS_succ (f : Nat → Int × Int) (k : Nat) : bdS f (k + 1) = bdS f k ++ [f k] := by unfold bdS; rw [List.range_succ, List.map_append]; rfl
theorem bdS_len (f : Nat → Int × Int) (k : Nat) : (bdS f k).length = k := by unfold bdS; simp
def bdv (x : Int × Int) : Array Value := #[.int .i64 x.1, .int .i64 x.2]
/-- One task's, of a configuration that is right. -/
theorem bd_one (mn mx sw : Int) (ts : List Tk) (ls : List Ln) (hs : List Th) (A : Option Addr) (ca : Nat) (B : Option Addr) (cb : Nat) (D : Option Addr) (cd : Nat) (w : World)
    (hlt0 : ts.length ≤ 1048576) (hll : ls.length ≤ 1048576) (hlh : hs.length ≤ 1048576) (hwhy : Cf.why ⟨mn, mx, sw, ts, ls, hs⟩ = 0) (k : Nat) (hk : k < ts.length)
    (ht : Rd w A (ts.flatMap tkc)) (hl : Rd w B (ls.flatMap lnc)) (hh : Rd w D (hs.flatMap thc)) (hmx : I64 mx) (ht64 : ∀ p ∈ ts.map (·.prio) ++ hs.map (·.prio), I64 p) :
    Calls Tryz.prog 50 #[cfv mn mx sw A ts.length ca B ls.length cb D hs.length cd, .int .i64 (k : Int)] w (RetN (bdF mn sw ts ls hs k).1 (bdF mn sw ts ls hs k).2 w) := by
  have h := rbound_any mn mx sw ts ls hs A ca B cb D cd (k : Int) w hlt0 hll hlh ht hl hh hmx ht64
  have e : askY (Cf.why ⟨mn, mx, sw, ts, ls, hs⟩) ts (k : Int) = 0 := by
    unfold askY
    rw [if_neg (by simp [hwhy]), if_neg (by omega)]
  rw [if_pos e, if_pos e, Int.toNat_natCast] at h
  exact h
theorem bounds_any (mn mx sw : Int) (A : Option Addr) (na ca : Nat) (B : Option Addr) (nb cb : Nat) (D : Option Addr) (nd cd : Nat) (w : World) :
    Calls Tryz.prog 47 #[cfv mn mx sw A na ca B nb cb D nd cd] w fun e w' =>
      e = .returned (.func (.func 79) #[] #[.pointer (some ⟨w.heap.size, 0, none⟩)]) ∧
      w.alloc (.cells #[.int .i64 mn, .int .i64 mx, .int .i64 sw, .slice A na ca, .slice B nb cb, .slice D nd cd] 28) = w' := by
  unfold cfv
  go_enter Tryz.func47, Tryz.ntmps47
  go_wp2
  go_ret
  exact ⟨by simp, rfl⟩
set_option maxHeartbeats 4000000 in
set_option maxRecDepth 100000 in
/-- What bounds hands back. -/
theorem bd_iter (mn mx sw : Int) (ts : List Tk) (ls : List Ln) (hs : List Th) (A : Option Addr) (ca : Nat) (B : Option Addr) (cb : Nat) (D : Option Addr) (cd : Nat) (b1 n1 : Nat) (out : List Nat) (w0 w : World)
    (hlt0 : ts.length ≤ 1048576) (hll : ls.length ≤ 1048576) (hlh : hs.length ≤ 1048576) (hwhy : Cf.why ⟨mn, mx, sw, ts, ls, hs⟩ = 0)
    (h0 : Below w0.heap.size w0 w) (k1 : b1 < n1) (q1 : b1 ∉ out)
    (hb1 : w.heap[b1]? = some (.cells #[.int .i64 mn, .int .i64 mx, .int .i64 sw, .slice A ts.length ca, .slice B ls.length cb, .slice D hs.length cd] 28 (0, 0)))
    (ht : Rd w0 A (ts.flatMap tkc)) (hl : Rd w0 B (ls.flatMap lnc)) (hh : Rd w0 D (hs.flatMap thc)) (hmx : I64 mx) (ht64 : ∀ p ∈ ts.map (·.prio) ++ hs.map (·.prio), I64 p) :
    SeqStopsK Fence.wide 8 Tryz.prog 79 #[.pointer (some ⟨b1, 0, none⟩)] bdv (KeepsLow w0.heap.size n1 out)
      (fun xs => ∃ k, k ≤ ts.length ∧ xs = bdS (bdF mn sw ts ls hs) k ∧ ((∀ x ∈ xs, x.2 = 0) → k = ts.length))
      (fun pre => ∃ k, k ≤ ts.length ∧ pre = bdS (bdF mn sw ts ls hs) k) ts.length w := fun ll J Jx W hW hJ hJx hY hJ0 => by
  have H1 := Lib.hid (box_keep hb1 hW)
  have HW0 := Lib.hid (h0.trans (hW.mono h0.size))
  have Ht := Lib.hid ht; have Hl := Lib.hid hl; have Hh := Lib.hid hh
  have HJ := Lib.hid hJ; have HY := Lib.hid hY; have HJ0 := Lib.hid hJ0
  have s0 := h0.size
  have sW := hW.size
  have f1 := Lib.hid (fun k hk w ht hl hh => bd_one mn mx sw ts ls hs A ca B cb D cd w hlt0 hll hlh hwhy k hk ht hl hh hmx ht64)
  clear hb1 h0 hW hJ hJx hY hJ0 ht hl hh hmx ht64 hwhy
  generalize bdF mn sw ts ls hs = f at *
  unfold cfv at f1
  obtain ⟨hmx, hmy⟩ := box_rules H1.out
  refine callsIn_of_wp Tryz.func79 rfl trivial ?_ rfl
  simp only [Tryz.ntmps79, List.size_toArray, List.length_cons, List.length_nil, Nat.reduceAdd, Nat.reduceSub, Array.replicate_succ, Array.replicate_zero, List.push_toArray, List.append_toArray, List.nil_append, List.cons_append]
  gi_wp2
  gi_loopw [9] (fun i wr => ∃ k : Nat, k ≤ ts.length ∧ i = .int .i64 k ∧ J (bdS f k) wr ∧ KeepsLow w0.heap.size n1 out W wr ∧ W.heap.size ≤ wr.heap.size) (fun i _ => ts.length - (intOf i).toNat)
  case atStart => exact ⟨0, by omega, rfl, HJ0.out, KeepsLow.refl _, Nat.le_refl _⟩
  case round =>
    obtain ⟨k, hk, rfl, hj, hK, hs⟩ := hrel
    have Hj := Lib.hid hj; have HK := Lib.hid hK
    clear hj hK
    by_cases hlt : k < ts.length
    · have HD2 := Lib.hid (HK.out.box k1 q1 H1.out)
      obtain ⟨kx, ky⟩ := box_rules HD2.out
      have lx := box_lt HD2.out
      have sa : w0.heap.size ≤ wr.heap.size := by omega
      have HK2 := Lib.hid (fun w3 (hb3 : Below wr.heap.size wr w3) => HK.out.call hb3 sa)
      have HS2 := Lib.hid (bdS_succ f k)
      have hwr := Lib.hid (HW0.out.trans HK.out.below)
      have f2 := Lib.hid (f1.out k hlt wr (Ht.out.below hwr.out) (Hl.out.below hwr.out) (Hh.out.below hwr.out))
      unfold RetN at f2
      have HY2 := Lib.hid (fun w3 (hb3 : Below wr.heap.size wr w3) => HY.out (bdS f k) (f k) w3 (HJ.out _ _ _ none Hj.out (below_grown hb3) (fun _ h => by cases h)) (by rw [bdS_len]; exact hlt))
      generalize hfk : f k = x at *
      obtain ⟨b, y⟩ := x
      have HF := Lib.hid hfk
      clear hfk hwr f1
      dsimp only at f2
      gi_wp2_with (refine ⟨trivial, ?_⟩; gi_at_call 50; refine (callsIn_wide.2 f2.out).mono ?_; rintro e w3 ⟨rfl, hb3⟩; have HB3 := Lib.hid hb3; clear hb3; obtain ⟨fn, tmps, assign, body, hy, hR⟩ := HY2.out _ HB3.out; unfold bdv at hy; dsimp only at hy; have HR := Lib.hid hR; clear hR)
      refine HR.out.mono ?_
      rintro e W3 (⟨rfl, hJ4, hk4⟩ | ⟨rfl, hJx4⟩)
      · have HJ4 := Lib.hid hJ4; have HK4 := Lib.hid hk4
        clear hJ4 hk4
        by_cases hy0 : y = 0
        · subst hy0
          gi_wp2
          go_roundw
          case rel =>
            refine ⟨k + 1, by omega, by go_num, by rw [HS2.out]; exact HJ4.out, (HK2.out _ HB3.out).trans HK4.out, Nat.le_trans hs (Nat.le_trans HB3.out.size HK4.out.below.size)⟩
          case measure => simp [intOf]; omega
        · have hy1 : (y != 0) = true := by simpa using hy0
          gi_wp2
          refine bodyPost_ret (results_none rfl _ _ _) rfl ?_
          exact ⟨⟨_, rfl⟩, .inl ⟨_, ⟨k + 1, by omega, HS2.out.symm, fun h => absurd (h (b, y) (by simp)) hy0⟩, HJ4.out⟩⟩
      · have HJ4 := Lib.hid hJx4
        clear hJx4
        gi_wp2
        refine bodyPost_ret (results_none rfl _ _ _) rfl ?_
        exact ⟨⟨_, rfl⟩, .inr ⟨_, ⟨k + 1, by omega, HS2.out.symm⟩, HJ4.out⟩⟩
    · obtain rfl : k = ts.length := by omega
      gi_wp2
      go_end0
      exact ⟨⟨_, rfl⟩, .inl ⟨_, ⟨_, Nat.le_refl _, rfl, fun _ => rfl⟩, Hj.out⟩⟩
end Go.Proofs.YtgampofpabllbaaGreat
/- Package admit: the walk of Bounds. Conditions: lists that read. -/
namespace Go.Proofs.YtgampofpabllbaaGreat
open Go.RowKit Go.Shelf
attribute [local go_sem] Oper.semAt_some

/-- All bounds, up to the first task that has none. -/
def bdGo (f : Nat → Int × Int) : Nat → Nat → List Int → List Int × Int × Int
  | 0, _, acc => (acc, 0, 0)
  | m + 1, k, acc => if (f k).2 ≠ 0 then ([], (k : Int), (f k).2) else bdGo f m (k + 1) (acc ++ [(f k).1])
def bdY (f : Nat → Int × Int) (n : Nat) : List Int × Int × Int := bdGo f n 0 []
def bdL (f : Nat → Int × Int) (k : Nat) : List Int := (List.range k).map fun j => (f j).1
theorem bdL_succ (f : Nat → Int × Int) (k : Nat) : bdL f (k + 1) = bdL f k ++ [(f k).1] := by unfold bdL; rw [List.range_succ, List.map_append]; rfl
theorem bdL_len (f : Nat → Int × Int) (k : Nat) : (bdL f k).length = k := by unfold bdL; simp
theorem bd_skip {f : Nat → Int × Int} {n : Nat} : ∀ {k : Nat}, k ≤ n → (∀ j, j < k → (f j).2 = 0) → bdY f n = bdGo f (n - k) k (bdL f k)
  | 0, _, _ => rfl
  | k + 1, hk, h => by
    rw [bd_skip (k := k) (by omega) (fun j hj => h j (by omega)), show n - k = (n - (k + 1)) + 1 by omega, bdL_succ]
    show (if (f k).2 ≠ 0 then _ else _) = _
    rw [if_neg (by simp [h k (by omega)])]
theorem bd_done {f : Nat → Int × Int} {n : Nat} (h : ∀ j, j < n → (f j).2 = 0) : bdY f n = (bdL f n, 0, 0) := by
  rw [bd_skip (Nat.le_refl _) h, Nat.sub_self]; rfl
theorem bd_bad {f : Nat → Int × Int} {n k : Nat} (hk : k < n) (h : ∀ j, j < k → (f j).2 = 0) (hb : (f k).2 ≠ 0) : bdY f n = ([], (k : Int), (f k).2) := by
  rw [bd_skip (by omega) h, show n - k = (n - k - 1) + 1 by omega]
  show (if (f k).2 ≠ 0 then _ else _) = _
  rw [if_pos hb]
theorem bdS_good {f : Nat → Int × Int} {k : Nat} (h : ∀ x ∈ bdS f k, x.2 = 0) : ∀ j, j < k → (f j).2 = 0 := fun j hj => h _ (List.mem_map.2 ⟨j, List.mem_range.2 hj, rfl⟩)
theorem bdS_fst (f : Nat → Int × Int) (k : Nat) : (bdS f k).map (fun x => Value.int .i64 x.1) = (bdL f k).map (.int .i64) := by unfold bdS bdL; simp [Function.comp_def]
/-- What a search for all bounds hands back. -/
def RetB (R : List Int × Int × Int) (w : World) (e : Ending) (w' : World) : Prop :=
  ∃ (A : Option Addr) (c : Nat), e = .returned (.tuple #[.slice A R.1.length c, .int .i64 R.2.1, .int .i64 R.2.2]) ∧ Rd w' A (R.1.map (.int .i64)) ∧ Below w.heap.size w w'
def bndR (y : Int) (f : Nat → Int × Int) (n : Nat) : List Int × Int × Int := if y ≠ 0 then ([], 0, y) else bdY f n

/-- What the loop over all bounds holds; d: the heap's size behind the check. -/
structure BoI (w : World) (d : Nat) (pre : List (Int × Int)) (W : World) : Prop where
  good : ∀ x ∈ pre, x.2 = 0
  r1 : W.heap[w.heap.size + 1]? = some (.cells #[.slice none 0 0] 66 (0, 0))
  r2 : W.heap[w.heap.size + 2]? = some (.cells #[.int .i64 0] 3 (0, 0))
  r3 : W.heap[w.heap.size + 3]? = some (.cells #[.int .i64 0] 31 (0, 0))
  row : ∃ A c, W.heap[d]? = some (.cells #[.slice A pre.length c] 66 (0, 0)) ∧ W.ownsRow (d + 2) 2 1 (.slice A pre.length c) pre.length (pre.map fun x => .int .i64 x.1)
  low : Below w.heap.size w W
  size : d + 2 ≤ W.heap.size
def BoX (w : World) (c : Code) (pre : List (Int × Int)) (W : World) : Prop :=
  c = .ret ∧ ∃ (p : List (Int × Int)) (x : Int × Int), pre = p ++ [x] ∧ (∀ x ∈ p, x.2 = 0) ∧ x.2 ≠ 0 ∧ W.heap[w.heap.size + 1]? = some (.cells #[.slice none 0 0] 66 (0, 0)) ∧
    W.heap[w.heap.size + 2]? = some (.cells #[.int .i64 (p.length : Int)] 3 (0, 0)) ∧ W.heap[w.heap.size + 3]? = some (.cells #[.int .i64 x.2] 31 (0, 0)) ∧ Below w.heap.size w W
theorem boI_own {w : World} {d B : Nat} (hB : d < B) (hs : w.heap.size + 4 ≤ d) : OwnFrom B (BoI w d) := fun pre W W' row h hg hr => by
  obtain ⟨A, c, h1, h2⟩ := h.row
  exact ⟨h.good, ownFrom_box (β := Unit) (by omega) () W W' row h.r1 hg hr, ownFrom_box (β := Unit) (by omega) () W W' row h.r2 hg hr, ownFrom_box (β := Unit) (by omega) () W W' row h.r3 hg hr,
    ⟨A, c, ownFrom_box (β := Unit) (by omega) () W W' row h1 hg hr, ownFrom_row (β := Unit) (fun _ => _) (fun _ => _) (fun _ => _) () W W' row h2 hg hr⟩, ownFrom_below (β := Unit) (by omega) (Nat.le_refl _) () W W' row h.low hg hr, Nat.le_trans h.size hg.size⟩
theorem boX_own {w : World} {B : Nat} (hB : w.heap.size + 4 ≤ B) (c : Code) : OwnFrom B (BoX w c) := fun pre W W' row hs hg hr => by
  obtain ⟨h1, p, x, h2, h3, h4, h5, h6, h7, h8⟩ := hs
  exact ⟨h1, p, x, h2, h3, h4, ownFrom_box (β := Unit) (by omega) () W W' row h5 hg hr, ownFrom_box (β := Unit) (by omega) () W W' row h6 hg hr, ownFrom_box (β := Unit) (by omega) () W W' row h7 hg hr, ownFrom_below (β := Unit) (by omega) (Nat.le_refl _) () W W' row h8 hg hr⟩
set_option maxHeartbeats 4000000 in
set_option maxRecDepth 100000 in
theorem abounds_any (mn mx sw : Int) (ts : List Tk) (ls : List Ln) (hs : List Th) (A : Option Addr) (ca : Nat) (B : Option Addr) (cb : Nat) (D : Option Addr) (cd : Nat) (w : World)
    (hlt0 : ts.length ≤ 1048576) (hll : ls.length ≤ 1048576) (hlh : hs.length ≤ 1048576)
    (ht : Rd w A (ts.flatMap tkc)) (hl : Rd w B (ls.flatMap lnc)) (hh : Rd w D (hs.flatMap thc)) (hmx : I64 mx) (ht64 : ∀ p ∈ ts.map (·.prio) ++ hs.map (·.prio), I64 p) :
    Calls Tryz.prog 31 #[cfv mn mx sw A ts.length ca B ls.length cb D hs.length cd] w (RetB (bndR (Cf.why ⟨mn, mx, sw, ts, ls, hs⟩) (bdF mn sw ts ls hs) ts.length) w) := by
  have Ht := Lib.hid ht; have Hl := Lib.hid hl; have Hh := Lib.hid hh
  have f1 := Lib.hid (fun w ht hl hh => check_cfg mn mx sw ts ls hs A ca B cb D cd w hlt0 hll hlh ht hl hh hmx ht64)
  have f2 := Lib.hid (fun w => bounds_any mn mx sw A ts.length ca B ls.length cb D hs.length cd w)
  have IT := Lib.hid (fun hy b1 n1 out w0 w h0 k1 q1 hb1 ht hl hh => bd_iter mn mx sw ts ls hs A ca B cb D cd b1 n1 out w0 w hlt0 hll hlh hy h0 k1 q1 hb1 ht hl hh hmx ht64)
  have Hno : Hid (∀ y, y ≠ 0 → bndR y (bdF mn sw ts ls hs) ts.length = ([], 0, y)) := Lib.hid (fun y h => if_pos h)
  have Hyes : Hid (bndR 0 (bdF mn sw ts ls hs) ts.length = bdY (bdF mn sw ts ls hs) ts.length) := Lib.hid rfl
  clear ht hl hh hmx ht64
  unfold cfv at *
  generalize bdF mn sw ts ls hs = f at *
  generalize Cf.why ⟨mn, mx, sw, ts, ls, hs⟩ = y at *
  generalize hRR : bndR y f ts.length = RR
  have HRR := Lib.hid hRR
  clear hRR
  refine calls_marks Tryz.func31 rfl ?_
  simp only [Tryz.ntmps31, List.size_toArray, List.length_cons, List.length_nil, Nat.reduceAdd, Nat.reduceSub, Array.replicate_succ, Array.replicate_zero, List.push_toArray, List.append_toArray, List.nil_append, List.cons_append]
  go_wp2_with fail
  refine (f1.out _ ((((Ht.out.alloc _).alloc _).alloc _).alloc _) ((((Hl.out.alloc _).alloc _).alloc _).alloc _) ((((Hh.out.alloc _).alloc _).alloc _).alloc _)).mono ?_
  rintro e w2 ⟨rfl, hb⟩
  have KR0 : Hid (w2.heap[w.heap.size]? = some (.cells #[.int .i64 mn, .int .i64 mx, .int .i64 sw, .slice A ts.length ca, .slice B ls.length cb, .slice D hs.length cd] 28 (0, 0))) := Lib.hid (box_keep (box_alloc (box_alloc (box_alloc (heap_alloc_new w _) _) _) _) hb)
  have KR1 : Hid (w2.heap[w.heap.size + 1]? = some (.cells #[.slice none 0 0] 66 (0, 0))) := Lib.hid (box_keep (box_alloc (box_alloc (heap_new_at _ (by simp)) _) _) hb)
  have KR2 : Hid (w2.heap[w.heap.size + 1 + 1]? = some (.cells #[.int .i64 0] 3 (0, 0))) := Lib.hid (box_keep (box_alloc (heap_new_at _ (by simp)) _) hb)
  have KR3 : Hid (w2.heap[w.heap.size + 1 + 1 + 1]? = some (.cells #[.int .i64 0] 31 (0, 0))) := Lib.hid (box_keep (heap_new_at _ (by simp)) hb)
  have KB := Lib.hid ((((((Below.refl w.heap.size w).alloc (Nat.le_refl _) _).alloc (by simp) _).alloc (by simp; omega) _).alloc (by simp; omega) _).trans (hb.mono (by simp; omega)))
  have s2 : w.heap.size + 4 ≤ w2.heap.size := by have := hb.size; simp at this; omega
  clear hb f1
  have l20 : w.heap.size < w2.heap.size := by omega
  obtain ⟨k0x, k0y⟩ := box_rules KR0.out
  obtain ⟨k1x, k1y⟩ := box_rules KR1.out
  obtain ⟨k2x, k2y⟩ := box_rules KR2.out
  obtain ⟨k3x, k3y⟩ := box_rules KR3.out
  by_cases hy : y = 0
  · have IT2 := Lib.hid (IT.out hy)
    subst hy
    rw [Hyes.out] at HRR
    have hy1 : ((0 : Int) != 0) = false := by decide
    clear Hno Hyes IT
    go_wp2_with (go_at_call 47; refine (f2.out _).mono ?_; rintro e w' ⟨rfl, rfl⟩)
    refine name_world fun W6 hW6 => ?_
    have hs6 : w2.heap.size + 2 ≤ W6.heap.size := by rw [hW6]; simp
    have hB2 : Below w2.heap.size w2 W6 := by rw [hW6]; exact ((Below.refl _ _).alloc (Nat.le_refl _) _).alloc (by simp) _
    have hB6 : Below w.heap.size w W6 := KB.out.trans (hB2.mono KB.out.size)
    have x0 : W6.heap[w2.heap.size]? = some (.cells #[.slice none 0 0] 66 (0, 0)) := by rw [hW6]; exact box_alloc (heap_alloc_new _ _) _
    have x1 : W6.heap[w2.heap.size + 1]? = some (.cells #[.int .i64 mn, .int .i64 mx, .int .i64 sw, .slice A ts.length ca, .slice B ls.length cb, .slice D hs.length cd] 28 (0, 0)) := by rw [hW6]; exact heap_new_at _ (by simp)
    have hit := IT2.out (w2.heap.size + 1) (w2.heap.size + 2) [w.heap.size + 1, w.heap.size + 2, w.heap.size + 3, w2.heap.size] w W6 hB6 (by omega) (by simp; omega) x1 Ht.out Hl.out Hh.out
    have hI0 : BoI w w2.heap.size [] W6 := ⟨fun _ h => (by cases h), box_keep KR1.out hB2, box_keep KR2.out hB2, box_keep KR3.out hB2, ⟨none, 0, x0, own_nilK _ _ _ _⟩, hB6, hs6⟩
    clear hW6 x0 x1 IT2 hB2 k0x k0y k1x k1y k2x k2y k3x k3y
    refine (wpIn_wide (n := 9)).1 (wpIn_rangeFunc_ownH (F := Fence.wide) (n := 9) rfl (by omega) rfl trivial (enters_of Tryz.func79 (by kernel_rfl) rfl) hit (fun h k => h.trans k) (KeepsLow.put (by omega)) (Below.refl _ _) (fun _ => rfl)
      (BoI w w2.heap.size) (BoX w) (boI_own (by omega) s2) (boX_own (by omega)) hI0
      (fun x a' W => a' = { tmps := #[.agg #[.int .i64 mn, .int .i64 mx, .int .i64 sw, .slice A ts.length ca, .slice B ls.length cb, .slice D hs.length cd], .pointer (some ⟨w.heap.size, 0, none⟩), .pointer (some ⟨w.heap.size + 1, 0, none⟩), .pointer (some ⟨w.heap.size + 1 + 1, 0, none⟩), .pointer (some ⟨w.heap.size + 1 + 1 + 1, 0, none⟩), .int .i64 0, .pointer (some ⟨w2.heap.size, 0, none⟩), .int .i64 x.1, .int .i64 x.2,
        .agg #[.int .i64 mn, .int .i64 mx, .int .i64 sw, .slice A ts.length ca, .slice B ls.length cb, .slice D hs.length cd], .int .i64 0, .int .i64 0, .bool false, undef, .agg #[.int .i64 mn, .int .i64 mx, .int .i64 sw, .slice A ts.length ca, .slice B ls.length cb, .slice D hs.length cd], .func (.func 79) #[] #[.pointer (some ⟨w2.heap.size + 1, 0, none⟩)], .int .i64 x.1, .int .i64 x.2, undef, undef, undef, undef, undef, undef, undef, undef, undef, undef], defers := [] })
      (fun x a' s W W' row hs hg hr => hs)
      ?assign ?body ?done ?stop)
    case assign =>
      rintro l' pre ⟨b, v⟩ W K hI hK
      dsimp only [bdv]
      gi_wp2
      exact hK _ _ (KeepsFrom.refl _ _) (KeepsLow.refl _) hI rfl
    case body =>
      rintro l' pre ⟨b, v⟩ a' W hl' _ hI rfl hlen
      clear hit hI0 hB6
      obtain ⟨A1, c1, hbox, hrow⟩ := hI.row
      obtain ⟨sx, sy⟩ := box_rules hbox
      obtain ⟨r1x, r1y⟩ := box_rules hI.r1
      obtain ⟨r2x, r2y⟩ := box_rules hI.r2
      obtain ⟨r3x, r3y⟩ := box_rules hI.r3
      have HI := Lib.hid hI; have HBx := Lib.hid hbox; have HRow := Lib.hid hrow
      clear hI hbox hrow
      have hsz := HI.out.size
      have hln : pre.length ≤ 1048576 := by omega
      by_cases hv : v = 0
      · subst hv
        dsimp only
        gi_wp2_with (gi_at_builtin; go_loud (refine wpI_appK rfl _ _ sk_i64 (by decide) rfl (own_allocK HRow.out _) rfl (by omega) (by simp; omega) W.heap.size [.int .i64 b] rfl rfl ?_ rfl ?_); (intro j u hu; exact new_cell (w := W) hu); intro A4 c4 w4 ho4 hg4; have G4 := Lib.hid (grown_step HRow.out hg4); have HO4 := Lib.hid ho4; have HG4 := Lib.hid hg4; have HBx4 := Lib.hid (G4.out.low HBx.out (by omega)); obtain ⟨sx4, sy4⟩ := box_rules HBx4.out; clear ho4 hg4 sx sy)
        refine ⟨?_, ?_, ⟨?_, ?_, ?_, ?_, ⟨A4, c4, ?_, ?_⟩, ?_, ?_⟩⟩
        · exact (ko_set (ko_step HRow.out HG4.out) _ _).from _
        · exact (KeepsLow.step (nA := w.heap.size) (n1 := w2.heap.size + 2) (out := [w.heap.size + 1, w.heap.size + 2, w.heap.size + 3, w2.heap.size]) HRow.out HG4.out (by omega) (by omega) (Nat.le_refl _)).set (p := ⟨w2.heap.size, 0, none⟩) (by show _ ≤ w2.heap.size; omega) (.inl (by simp)) _
        · intro x hx
          rcases List.mem_append.1 hx with h | h
          · exact HI.out.good x h
          · simp at h; subst h; rfl
        · exact box_far (G4.out.low HI.out.r1 (by omega)) (p := ⟨w2.heap.size, 0, none⟩) (by show _ ≠ w2.heap.size; omega) _
        · exact box_far (G4.out.low HI.out.r2 (by omega)) (p := ⟨w2.heap.size, 0, none⟩) (by show _ ≠ w2.heap.size; omega) _
        · exact box_far (G4.out.low HI.out.r3 (by omega)) (p := ⟨w2.heap.size, 0, none⟩) (by show _ ≠ w2.heap.size; omega) _
        · rw [List.length_append]
          exact box_set (t := 66) (cs := #[.slice A1 pre.length c1]) (i := 0) HBx4.out _
        · rw [List.length_append, List.map_append]
          exact own_setK HO4.out (own_low HO4.out (by show w2.heap.size < _; omega)) _
        · exact (G4.out.below HI.out.low (by omega) (by omega)).setCell (p := ⟨w2.heap.size, 0, none⟩) (by show _ ≤ w2.heap.size; omega) _
        · have := G4.out.size
          simp only [World.setCell, Array.size_modify]
          omega
      · have hv1 : (v != 0) = true := by simpa using hv
        have KR1 := Lib.hid HI.out.r1; have KR2 := Lib.hid HI.out.r2; have KR3 := Lib.hid HI.out.r3; have KB := Lib.hid HI.out.low
        dsimp only
        gi_wp2
        refine round_draw [(3, ⟨w.heap.size + 1, 0, none⟩, .slice none 0 0), (4, ⟨w.heap.size + 1 + 1, 0, none⟩, .int .i64 (pre.length : Int)), (5, ⟨w.heap.size + 1 + 1 + 1, 0, none⟩, .int .i64 v)]
          (fun W' => W'.cell? ⟨w2.heap.size, 0, none⟩ = some (.slice A1 pre.length c1) ∧ Wr W' ⟨w.heap.size + 1, 0, none⟩ ∧ Wr W' ⟨w.heap.size + 1 + 1, 0, none⟩ ∧ Wr W' ⟨w.heap.size + 1 + 1 + 1, 0, none⟩)
          (by repeat (first | exact letsOut_ownG | refine letsOut_then ?_ | refine letsOut_block ?_)) (by kernel_rfl) (by kernel_rfl) (by kernel_rfl) (fun _ h => h) ?hst ?h0 ?hw
        case h0 => exact ⟨sx 0, ⟨⟨_, r1x 0⟩, r1y 0⟩, ⟨⟨_, r2x 0⟩, r2y 0⟩, ⟨_, r3x 0⟩, r3y 0⟩
        case hst =>
          intro s hs W' ⟨g1, g2, g3, g4⟩
          simp only [List.mem_cons, List.not_mem_nil, or_false] at hs
          rcases hs with rfl | rfl | rfl
          · exact ⟨cell_set_far g1 (by simp <;> omega) _, g2.set _ _, g3.set _ _, g4.set _ _⟩
          · exact ⟨cell_set_far g1 (by simp <;> omega) _, g2.set _ _, g3.set _ _, g4.set _ _⟩
          · exact ⟨cell_set_far g1 (by simp <;> omega) _, g2.set _ _, g3.set _ _, g4.set _ _⟩
        case hw =>
          clear sx sy r1x r1y r2x r2y r3x r3y HBx HRow
          iterate 6
            (refine wpG_step (fun K hK => ?_)
             go_simp
             first | (apply Exists.intro; refine ⟨?_, hK _ ?_⟩) | refine ⟨⟨undef, ?_⟩, hK _ ?_⟩
             · rintro W' ⟨g1, ⟨⟨v4, g4⟩, f4⟩, ⟨⟨v5, g5⟩, f5⟩, ⟨⟨v6, g6⟩, f6⟩⟩
               unfold gAt
               go_simp
               exact ⟨rfl, rfl⟩
             clear hK K)
          intro n
          have h1 : (((W.setCell ⟨w.heap.size + 1, 0, none⟩ (.slice none 0 0)).setCell ⟨w.heap.size + 1 + 1, 0, none⟩ (.int .i64 ((pre.length : Int)))).setCell ⟨w.heap.size + 1 + 1 + 1, 0, none⟩ (.int .i64 (v))).heap[w.heap.size + 1]? = some (.cells #[.slice none 0 0] 66 (0, 0)) :=
            box_far (box_far (box_set (t := 66) (cs := #[.slice none 0 0]) (i := 0) KR1.out _) (p := ⟨w.heap.size + 1 + 1, 0, none⟩) (by show _ ≠ w.heap.size + 1 + 1; omega) _) (p := ⟨w.heap.size + 1 + 1 + 1, 0, none⟩) (by show _ ≠ w.heap.size + 1 + 1 + 1; omega) _
          have h2 : (((W.setCell ⟨w.heap.size + 1, 0, none⟩ (.slice none 0 0)).setCell ⟨w.heap.size + 1 + 1, 0, none⟩ (.int .i64 ((pre.length : Int)))).setCell ⟨w.heap.size + 1 + 1 + 1, 0, none⟩ (.int .i64 (v))).heap[w.heap.size + 1 + 1]? = some (.cells #[.int .i64 ((pre.length : Int))] 3 (0, 0)) :=
            box_far (box_set (t := 3) (cs := #[.int .i64 0]) (i := 0) (box_far KR2.out (p := ⟨w.heap.size + 1, 0, none⟩) (by show _ ≠ w.heap.size + 1; omega) _) _) (p := ⟨w.heap.size + 1 + 1 + 1, 0, none⟩) (by show _ ≠ w.heap.size + 1 + 1 + 1; omega) _
          have h3 : (((W.setCell ⟨w.heap.size + 1, 0, none⟩ (.slice none 0 0)).setCell ⟨w.heap.size + 1 + 1, 0, none⟩ (.int .i64 ((pre.length : Int)))).setCell ⟨w.heap.size + 1 + 1 + 1, 0, none⟩ (.int .i64 (v))).heap[w.heap.size + 1 + 1 + 1]? = some (.cells #[.int .i64 (v)] 31 (0, 0)) :=
            box_set (t := 31) (cs := #[.int .i64 0]) (i := 0) (box_far (box_far KR3.out (p := ⟨w.heap.size + 1, 0, none⟩) (by show _ ≠ w.heap.size + 1; omega) _) (p := ⟨w.heap.size + 1 + 1, 0, none⟩) (by show _ ≠ w.heap.size + 1 + 1; omega) _) _
          have h4 : Below w.heap.size w (((W.setCell ⟨w.heap.size + 1, 0, none⟩ (.slice none 0 0)).setCell ⟨w.heap.size + 1 + 1, 0, none⟩ (.int .i64 ((pre.length : Int)))).setCell ⟨w.heap.size + 1 + 1 + 1, 0, none⟩ (.int .i64 (v))) :=
            ((KB.out.setCell (p := ⟨w.heap.size + 1, 0, none⟩) (by show _ ≤ w.heap.size + 1; omega) _).setCell (p := ⟨w.heap.size + 1 + 1, 0, none⟩) (by show _ ≤ w.heap.size + 1 + 1; omega) _).setCell (p := ⟨w.heap.size + 1 + 1 + 1, 0, none⟩) (by show _ ≤ w.heap.size + 1 + 1 + 1; omega) _
          simp only [allSt]
          gi_wp2
          refine ⟨?_, rfl, pre, (b, v), rfl, HI.out.good, hv, h1, h2, h3, bdrewN h4 n⟩
          exact (ko_drewN (ko_set (ko_set (ko_set (KeepsOthers.refl W) _ _) _ _) _ _) n).from _
    case done =>
      intro D' xs W hD hS hI hK
      obtain ⟨k, hk, rfl, hkk⟩ := hS
      obtain rfl := hkk hI.good
      obtain ⟨A1, c1, hbox, hrow⟩ := hI.row
      have KR1 := Lib.hid hI.r1; have KR2 := Lib.hid hI.r2; have KR3 := Lib.hid hI.r3; have KB := Lib.hid hI.low
      rw [bd_done (bdS_good hI.good)] at HRR
      rw [bdS_len, bdS_fst] at hrow
      rw [bdS_len] at hbox
      have HRow := Lib.hid hrow; have HK := Lib.hid hK
      obtain ⟨kx, ky⟩ := box_rules hbox
      obtain ⟨k1x, k1y⟩ := box_rules KR1.out
      obtain ⟨k2x, k2y⟩ := box_rules KR2.out
      obtain ⟨k3x, k3y⟩ := box_rules KR3.out
      clear hit hI0 hB6 hkk hI hbox hrow hK
      dsimp only
      go_wp2
      have h1 : (((W.setCell ⟨w.heap.size + 1, 0, none⟩ (.slice A1 ts.length c1)).setCell ⟨w.heap.size + 1 + 1, 0, none⟩ (.int .i64 (0))).setCell ⟨w.heap.size + 1 + 1 + 1, 0, none⟩ (.int .i64 (0))).heap[w.heap.size + 1]? = some (.cells #[.slice A1 ts.length c1] 66 (0, 0)) :=
        box_far (box_far (box_set (t := 66) (cs := #[.slice none 0 0]) (i := 0) KR1.out _) (p := ⟨w.heap.size + 1 + 1, 0, none⟩) (by show _ ≠ w.heap.size + 1 + 1; omega) _) (p := ⟨w.heap.size + 1 + 1 + 1, 0, none⟩) (by show _ ≠ w.heap.size + 1 + 1 + 1; omega) _
      have h2 : (((W.setCell ⟨w.heap.size + 1, 0, none⟩ (.slice A1 ts.length c1)).setCell ⟨w.heap.size + 1 + 1, 0, none⟩ (.int .i64 (0))).setCell ⟨w.heap.size + 1 + 1 + 1, 0, none⟩ (.int .i64 (0))).heap[w.heap.size + 1 + 1]? = some (.cells #[.int .i64 (0)] 3 (0, 0)) :=
        box_far (box_set (t := 3) (cs := #[.int .i64 0]) (i := 0) (box_far KR2.out (p := ⟨w.heap.size + 1, 0, none⟩) (by show _ ≠ w.heap.size + 1; omega) _) _) (p := ⟨w.heap.size + 1 + 1 + 1, 0, none⟩) (by show _ ≠ w.heap.size + 1 + 1 + 1; omega) _
      have h3 : (((W.setCell ⟨w.heap.size + 1, 0, none⟩ (.slice A1 ts.length c1)).setCell ⟨w.heap.size + 1 + 1, 0, none⟩ (.int .i64 (0))).setCell ⟨w.heap.size + 1 + 1 + 1, 0, none⟩ (.int .i64 (0))).heap[w.heap.size + 1 + 1 + 1]? = some (.cells #[.int .i64 (0)] 31 (0, 0)) :=
        box_set (t := 31) (cs := #[.int .i64 0]) (i := 0) (box_far (box_far KR3.out (p := ⟨w.heap.size + 1, 0, none⟩) (by show _ ≠ w.heap.size + 1; omega) _) (p := ⟨w.heap.size + 1 + 1, 0, none⟩) (by show _ ≠ w.heap.size + 1 + 1; omega) _) _
      have h4 : Below w.heap.size w (((W.setCell ⟨w.heap.size + 1, 0, none⟩ (.slice A1 ts.length c1)).setCell ⟨w.heap.size + 1 + 1, 0, none⟩ (.int .i64 (0))).setCell ⟨w.heap.size + 1 + 1 + 1, 0, none⟩ (.int .i64 (0))) :=
        ((KB.out.setCell (p := ⟨w.heap.size + 1, 0, none⟩) (by show _ ≤ w.heap.size + 1; omega) _).setCell (p := ⟨w.heap.size + 1 + 1, 0, none⟩) (by show _ ≤ w.heap.size + 1 + 1; omega) _).setCell (p := ⟨w.heap.size + 1 + 1 + 1, 0, none⟩) (by show _ ≤ w.heap.size + 1 + 1 + 1; omega) _
      have hk5 := box_far (box_far (box_far HK.out (p := ⟨w.heap.size + 1, 0, none⟩) (by show _ ≠ w.heap.size + 1; omega) (.slice A1 ts.length c1)) (p := ⟨w.heap.size + 1 + 1, 0, none⟩) (by show _ ≠ w.heap.size + 1 + 1; omega) (.int .i64 0)) (p := ⟨w.heap.size + 1 + 1 + 1, 0, none⟩) (by show _ ≠ w.heap.size + 1 + 1 + 1; omega) (.int .i64 0)
      have kk1 := h1
      have kk2 := h2
      have kk3 := h3
      obtain ⟨p1, _⟩ := box_rules ((World.putObj_heap_other (o := .deferred none) (by omega : w.heap.size + 1 ≠ D')).trans kk1)
      obtain ⟨p2, _⟩ := box_rules ((World.putObj_heap_other (o := .deferred none) (by omega : w.heap.size + 1 + 1 ≠ D')).trans kk2)
      obtain ⟨p3, _⟩ := box_rules ((World.putObj_heap_other (o := .deferred none) (by omega : w.heap.size + 1 + 1 + 1 ≠ D')).trans kk3)
      refine post_mark (v := .tuple #[.slice A1 ts.length c1, .int .i64 (0), .int .i64 (0)]) hk5 (by simp [results, Tryz.f31, go_sem, p1, p2, p3]) ?_
      have kb := (h4).trans ((Below.refl _ _).grown (grownBy_putObj' _ D' (.deferred none)) (h4).size (fun k e => by cases e; omega))
      rw [← HRR.out]
      refine ⟨A1, c1, by rw [bdL_len], ?_, kb⟩
      have g1 := own_setK (own_setK (own_setK HRow.out (p := ⟨w.heap.size + 1, 0, none⟩) (own_low HRow.out (by show w.heap.size + 1 < _; omega)) (.slice A1 ts.length c1)) (p := ⟨w.heap.size + 1 + 1, 0, none⟩) (own_low HRow.out (by show w.heap.size + 1 + 1 < _; omega)) (.int .i64 0)) (p := ⟨w.heap.size + 1 + 1 + 1, 0, none⟩) (own_low HRow.out (by show w.heap.size + 1 + 1 + 1 < _; omega)) (.int .i64 0)
      exact own_rdK (own_keptK g1 fun g hg => by
        obtain ⟨_, _, cur, hcur⟩ := own_blockK g1 hg
        exact World.putObj_heap_other (fun e => by rw [e, hk5] at hcur; cases hcur))
    case stop =>
      rintro D' c' pre W hD ⟨k, hk, rfl⟩ ⟨rfl, p, x, h2, h3, h4, h5, h6, h7, h8⟩ hK
      have hk1 : k = p.length + 1 := by
        have := congrArg List.length h2
        rw [bdS_len, List.length_append] at this
        exact this
      subst hk1
      rw [bdS_succ] at h2
      obtain ⟨h10, h9⟩ := List.append_inj' h2 rfl
      have h11 : f p.length = x := by simpa using h9
      rw [← h11] at h4 h7
      rw [← h10] at h3
      rw [bd_bad hk (bdS_good h3) h4] at HRR
      clear h11
      clear hit hI0 hB6 h2 h9
      dsimp only
      refine (wpIn_wide (n := 9)).2 ?_
      go_wp2
      have kk1 := h5
      have kk2 := h6
      have kk3 := h7
      obtain ⟨p1, _⟩ := box_rules ((World.putObj_heap_other (o := .deferred none) (by omega : w.heap.size + 1 ≠ D')).trans kk1)
      obtain ⟨p2, _⟩ := box_rules ((World.putObj_heap_other (o := .deferred none) (by omega : w.heap.size + 1 + 1 ≠ D')).trans kk2)
      obtain ⟨p3, _⟩ := box_rules ((World.putObj_heap_other (o := .deferred none) (by omega : w.heap.size + 1 + 1 + 1 ≠ D')).trans kk3)
      refine post_mark (v := .tuple #[.slice none 0 0, .int .i64 ((p.length : Int)), .int .i64 ((f p.length).2)]) hK (by simp [results, Tryz.f31, go_sem, p1, p2, p3]) ?_
      have kb := (h8).trans ((Below.refl _ _).grown (grownBy_putObj' _ D' (.deferred none)) (h8).size (fun k e => by cases e; omega))
      rw [← HRR.out]
      exact ⟨none, 0, rfl, Rd.nil _ _, kb⟩
  · have hy1 : (y != 0) = true := by simpa using hy
    have HRR2 := Lib.hid (HRR.out.symm.trans (Hno.out y hy))
    clear HRR Hno Hyes IT
    go_wp2
    have h1 : (((w2.setCell ⟨w.heap.size + 1, 0, none⟩ (.slice none 0 0)).setCell ⟨w.heap.size + 1 + 1, 0, none⟩ (.int .i64 (0))).setCell ⟨w.heap.size + 1 + 1 + 1, 0, none⟩ (.int .i64 (y))).heap[w.heap.size + 1]? = some (.cells #[.slice none 0 0] 66 (0, 0)) :=
      box_far (box_far (box_set (t := 66) (cs := #[.slice none 0 0]) (i := 0) KR1.out _) (p := ⟨w.heap.size + 1 + 1, 0, none⟩) (by show _ ≠ w.heap.size + 1 + 1; omega) _) (p := ⟨w.heap.size + 1 + 1 + 1, 0, none⟩) (by show _ ≠ w.heap.size + 1 + 1 + 1; omega) _
    have h2 : (((w2.setCell ⟨w.heap.size + 1, 0, none⟩ (.slice none 0 0)).setCell ⟨w.heap.size + 1 + 1, 0, none⟩ (.int .i64 (0))).setCell ⟨w.heap.size + 1 + 1 + 1, 0, none⟩ (.int .i64 (y))).heap[w.heap.size + 1 + 1]? = some (.cells #[.int .i64 (0)] 3 (0, 0)) :=
      box_far (box_set (t := 3) (cs := #[.int .i64 0]) (i := 0) (box_far KR2.out (p := ⟨w.heap.size + 1, 0, none⟩) (by show _ ≠ w.heap.size + 1; omega) _) _) (p := ⟨w.heap.size + 1 + 1 + 1, 0, none⟩) (by show _ ≠ w.heap.size + 1 + 1 + 1; omega) _
    have h3 : (((w2.setCell ⟨w.heap.size + 1, 0, none⟩ (.slice none 0 0)).setCell ⟨w.heap.size + 1 + 1, 0, none⟩ (.int .i64 (0))).setCell ⟨w.heap.size + 1 + 1 + 1, 0, none⟩ (.int .i64 (y))).heap[w.heap.size + 1 + 1 + 1]? = some (.cells #[.int .i64 (y)] 31 (0, 0)) :=
      box_set (t := 31) (cs := #[.int .i64 0]) (i := 0) (box_far (box_far KR3.out (p := ⟨w.heap.size + 1, 0, none⟩) (by show _ ≠ w.heap.size + 1; omega) _) (p := ⟨w.heap.size + 1 + 1, 0, none⟩) (by show _ ≠ w.heap.size + 1 + 1; omega) _) _
    have h4 : Below w.heap.size w (((w2.setCell ⟨w.heap.size + 1, 0, none⟩ (.slice none 0 0)).setCell ⟨w.heap.size + 1 + 1, 0, none⟩ (.int .i64 (0))).setCell ⟨w.heap.size + 1 + 1 + 1, 0, none⟩ (.int .i64 (y))) :=
      ((KB.out.setCell (p := ⟨w.heap.size + 1, 0, none⟩) (by show _ ≤ w.heap.size + 1; omega) _).setCell (p := ⟨w.heap.size + 1 + 1, 0, none⟩) (by show _ ≤ w.heap.size + 1 + 1; omega) _).setCell (p := ⟨w.heap.size + 1 + 1 + 1, 0, none⟩) (by show _ ≤ w.heap.size + 1 + 1 + 1; omega) _
    obtain ⟨p1, _⟩ := box_rules h1
    obtain ⟨p2, _⟩ := box_rules h2
    obtain ⟨p3, _⟩ := box_rules h3
    refine post_plain (v := .tuple #[.slice none 0 0, .int .i64 0, .int .i64 y]) (by simp [results, Tryz.f31, go_sem, p1, p2, p3]) ?_
    rw [HRR2.out]
    exact ⟨none, 0, rfl, Rd.nil _ _, h4⟩
end Go.Proofs.YtgampofpabllbaaGreat
/- The family: as data; the walks of admit.task, admit.Family, vergeref29.Family. No premise of its own. -/
namespace Go.Proofs.YtgampofpabllbaaGreat
open Go.RowKit Go.Shelf

def famTk (k : Nat) : Tk := ⟨if k % 2 = 1 then 2 else 1, 40 - k, 1000 * (k + 1), 0, 1000 * (k + 1), 40, 2, if k = 0 ∨ k = 3 then 0 else -1, if k = 0 ∨ k = 3 then 5 else 0, if k = 0 ∨ k = 3 then 15 else 0⟩
def famTs (n : Nat) : List Tk := (List.range n).map famTk
def famLs : List Ln := [⟨2, 5, 2, 500⟩, ⟨4, 3, 1, 300⟩]
def famHs : List Th := [⟨50, 20, 500, 4⟩, ⟨20, 10, 400, 2⟩]
theorem famTs_succ (n : Nat) : famTs (n + 1) = famTs n ++ [famTk n] := by unfold famTs; rw [List.range_succ, List.map_append]; rfl
theorem famTs_len (n : Nat) : (famTs n).length = n := by unfold famTs; simp
def famIn (n : Int) : Prop := 1 ≤ n ∧ n ≤ 8
instance (n : Int) : Decidable (famIn n) := by unfold famIn; infer_instance
/-- The family's member, or none. -/
def famC (n : Int) : Cf := if famIn n then ⟨4, 1000, 2, famTs n.toNat, famLs, famHs⟩ else ⟨0, 0, 0, [], [], []⟩
def famY (n : Int) : Int := if famIn n then 0 else 1
def RetF (c : Cf) (y : Int) (w : World) (e : Ending) (w' : World) : Prop :=
  ∃ (A : Option Addr) (ca : Nat) (B : Option Addr) (cb : Nat) (D : Option Addr) (cd : Nat), e = .returned (.tuple #[cfv c.mn c.mx c.sw A c.ts.length ca B c.ls.length cb D c.hs.length cd, .int .i64 y]) ∧
    Rd w' A (c.ts.flatMap tkc) ∧ Rd w' B (c.ls.flatMap lnc) ∧ Rd w' D (c.hs.flatMap thc) ∧ Below w.heap.size w w'
theorem skf_tk : SlK Tryz.prog 24 43 10 80 := SlK.mk' (z := .agg #[.int .u8 0, .int .i64 0, .int .i64 0, .int .i64 0, .int .i64 0, .int .i64 0, .int .i64 0, .int .i64 0, .int .i64 0, .int .i64 0]) Tryz.underlying24 (by kernel_rfl) rfl (by decide)
end Go.Proofs.YtgampofpabllbaaGreat
/- The family: the walks of admit.Family and vergeref29.Family. No premise of its own. -/
namespace Go.Proofs.YtgampofpabllbaaGreat
open Go.RowKit Go.Shelf

theorem famC_no {n : Int} (h : ¬ famIn n) : famC n = ⟨0, 0, 0, [], [], []⟩ ∧ famY n = 1 := ⟨if_neg h, if_neg h⟩
theorem famC_yes {n : Int} (h : famIn n) : famC n = ⟨4, 1000, 2, famTs n.toNat, famLs, famHs⟩ ∧ famY n = 0 := ⟨if_pos h, if_pos h⟩
theorem new_cell_at {w : World} {cs : Array Value} {t : TypeId} {j g : Nat} {u : Value} (hg : w.heap.size = g) (h : cs.toList[j]? = some u) : (w.alloc (.cells cs t)).cell? ⟨g, j, none⟩ = some u := by subst hg; exact new_cell h
end Go.Proofs.YtgampofpabllbaaGreat
/- Package admit: Accept, Slack; the answers that vergelaw29.lives asks for. Conditions: lists that read. -/
namespace Go.Proofs.YtgampofpabllbaaGreat
open Go.RowKit Go.Shelf

theorem accept_any (mn mx sw : Int) (ts : List Tk) (ls : List Ln) (hs : List Th) (A : Option Addr) (ca : Nat) (B : Option Addr) (cb : Nat) (D : Option Addr) (cd : Nat) (w : World)
    (hlt0 : ts.length ≤ 1048576) (hll : ls.length ≤ 1048576) (hlh : hs.length ≤ 1048576)
    (ht : Rd w A (ts.flatMap tkc)) (hl : Rd w B (ls.flatMap lnc)) (hh : Rd w D (hs.flatMap thc)) (hmx : I64 mx) (ht64 : ∀ p ∈ ts.map (·.prio) ++ hs.map (·.prio), I64 p) :
    Calls Tryz.prog 17 #[cfv mn mx sw A ts.length ca B ls.length cb D hs.length cd] w fun e w' =>
      e = .returned (.bool ((bndR (Cf.why ⟨mn, mx, sw, ts, ls, hs⟩) (bdF mn sw ts ls hs) ts.length).2.2 == 0)) ∧ Below w.heap.size w w' := by
  have f1 := Lib.hid (fun w ht hl hh => abounds_any mn mx sw ts ls hs A ca B cb D cd w hlt0 hll hlh ht hl hh hmx ht64)
  have Ht := Lib.hid ht; have Hl := Lib.hid hl; have Hh := Lib.hid hh
  clear ht hl hh hmx ht64
  unfold cfv RetB at *
  generalize bndR (Cf.why ⟨mn, mx, sw, ts, ls, hs⟩) (bdF mn sw ts ls hs) ts.length = R at *
  obtain ⟨L, at1, y⟩ := R
  dsimp only at *
  go_enter Tryz.func17, Tryz.ntmps17
  go_wp2_with fail
  refine (f1.out _ (Ht.out.alloc _) (Hl.out.alloc _) (Hh.out.alloc _)).mono ?_
  rintro e w2 ⟨A1, c1, rfl, _, hb⟩
  have HB := Lib.hid (((Below.refl w.heap.size w).alloc (Nat.le_refl _) _).trans (hb.mono (by simp)))
  clear hb f1
  go_wp2
  go_ret
  exact ⟨rfl, HB.out⟩
theorem fam_i64 (m : Nat) (hm : m ≤ 8) : ∀ p ∈ (famTs m).map (·.prio) ++ famHs.map (·.prio), I64 p := fun p hp => by
  rcases List.mem_append.1 hp with h | h
  · obtain ⟨t, ht, rfl⟩ := List.mem_map.1 h
    obtain ⟨k, hk, rfl⟩ := List.mem_map.1 (show t ∈ (List.range m).map famTk from ht)
    have := List.mem_range.1 hk
    unfold famTk I64
    dsimp only
    omega
  · simp [famHs] at h
    unfold I64
    omega
theorem addr_z (a : Addr) : a.add 0 = a := by
  unfold Addr.add
  split <;> simp_all
/-! what lives asks for -/
theorem why2_S : Cf.why ⟨4, 1000, 2, famTs 2, famLs, famHs⟩ = 0 := by kernel_rfl
theorem bnd2_S : bndR (Cf.why ⟨4, 1000, 2, famTs 2, famLs, famHs⟩) (bdF 4 2 (famTs 2) famLs famHs) (famTs 2).length = ([79, 117], 0, 0) := by kernel_rfl
theorem bd21_S : bdF 4 2 (famTs 2) famLs famHs 1 = (117, 0) := by kernel_rfl
theorem bnd0_S : bndR (Cf.why ⟨0, 0, 0, [], [], []⟩) (bdF 0 0 [] [] []) 0 = ([], 0, 2) := by kernel_rfl
section
variable {A : Option Addr} {ca : Nat} {B : Option Addr} {cb : Nat} {D : Option Addr} {cd : Nat} {w : World}
theorem i64_1000 : I64 1000 := by unfold I64; omega
theorem i64_0 : I64 0 := by unfold I64; omega
theorem abounds_S (ht : Rd w A ((famTs 2).flatMap tkc)) (hl : Rd w B (famLs.flatMap lnc)) (hh : Rd w D (famHs.flatMap thc)) : Calls Tryz.prog 31 #[cfv 4 1000 2 A 2 ca B 2 cb D 2 cd] w (RetB ([79, 117], 0, 0) w) := by
  have h := abounds_any 4 1000 2 (famTs 2) famLs famHs A ca B cb D cd w (by decide) (by decide) (by decide) ht hl hh i64_1000 (fam_i64 2 (by decide))
  rw [bnd2_S] at h
  exact h
theorem accept_S (ht : Rd w A ((famTs 2).flatMap tkc)) (hl : Rd w B (famLs.flatMap lnc)) (hh : Rd w D (famHs.flatMap thc)) : Calls Tryz.prog 17 #[cfv 4 1000 2 A 2 ca B 2 cb D 2 cd] w fun e w' => e = .returned (.bool true) ∧ Below w.heap.size w w' := by
  have h := accept_any 4 1000 2 (famTs 2) famLs famHs A ca B cb D cd w (by decide) (by decide) (by decide) ht hl hh i64_1000 (fam_i64 2 (by decide))
  rw [bnd2_S] at h
  exact h
theorem abounds_0 : Calls Tryz.prog 31 #[cfv 0 0 0 none 0 0 none 0 0 none 0 0] w (RetB ([], 0, 2) w) := by
  have h := abounds_any 0 0 0 [] [] [] none 0 none 0 none 0 w (by decide) (by decide) (by decide) (Rd.nil _ _) (Rd.nil _ _) (Rd.nil _ _) i64_0 (by simp)
  have e : bndR (Cf.why ⟨0, 0, 0, [], [], []⟩) (bdF 0 0 [] [] []) ([] : List Tk).length = ([], 0, 2) := bnd0_S
  rw [e] at h
  exact h
theorem accept_0 : Calls Tryz.prog 17 #[cfv 0 0 0 none 0 0 none 0 0 none 0 0] w fun e w' => e = .returned (.bool false) ∧ Below w.heap.size w w' := by
  have h := accept_any 0 0 0 [] [] [] none 0 none 0 none 0 w (by decide) (by decide) (by decide) (Rd.nil _ _) (Rd.nil _ _) (Rd.nil _ _) i64_0 (by simp)
  have e : bndR (Cf.why ⟨0, 0, 0, [], [], []⟩) (bdF 0 0 [] [] []) ([] : List Tk).length = ([], 0, 2) := bnd0_S
  rw [e] at h
  exact h
end
end Go.Proofs.YtgampofpabllbaaGreat

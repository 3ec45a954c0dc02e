/- Package wheel: the walks of before and Pop; cmp.Compare and cmp.Or at ints. Conditions: a wheel's memory. -/
import Derived.Test.YtiblpnadninmbaaGreatDoorWhJY
import Derived.BigRegion
namespace Go.Proofs.YtiblpnadninmbaaGreatDoor
open Go.RowKit Go.Shelf
attribute [local go_sem] Oper.semAt_some

def cmpI (x y : Int) : Int := if x < y then -1 else if y < x then 1 else 0
def orI (a b : Int) : Int := if a ≠ 0 then a else b
def befF (a b : Tm) : Int := orI (cmpI a.at' b.at') (cmpI a.turn b.turn)
theorem nan_i (x : Int) (w : World) : Calls Tryz.prog 106 #[.int .i64 x] w fun e w' => e = .returned (.bool false) ∧ w = w' := by
  have t0 : (x != x) = false := by simp
  go_enter Tryz.func106, Tryz.ntmps106
  go_wp2
  go_ret
  exact ⟨rfl, rfl⟩
theorem cmp_i (x y : Int) (w : World) : Calls Tryz.prog 103 #[.int .i64 x, .int .i64 y] w fun e w' => e = .returned (.int .i64 (cmpI x y)) ∧ w = w' := by
  have f1 := Lib.hid (fun z X => nan_i z X)
  unfold cmpI
  by_cases h1 : x < y
  · rw [if_pos h1]
    go_enter Tryz.func103, Tryz.ntmps103
    go_wp2_with (go_at_call 106; (with_reducible refine (f1.out _ _).mono ?_); rintro e w1 ⟨rfl, rfl⟩)
    go_ret
    exact ⟨rfl, rfl⟩
  · rw [if_neg h1]
    by_cases h2 : y < x
    · rw [if_pos h2]
      go_enter Tryz.func103, Tryz.ntmps103
      go_wp2_with (go_at_call 106; (with_reducible refine (f1.out _ _).mono ?_); rintro e w1 ⟨rfl, rfl⟩)
      go_ret
      exact ⟨rfl, rfl⟩
    · rw [if_neg h2]
      go_enter Tryz.func103, Tryz.ntmps103
      go_wp2_with (go_at_call 106; (with_reducible refine (f1.out _ _).mono ?_); rintro e w1 ⟨rfl, rfl⟩)
      go_ret
      exact ⟨rfl, rfl⟩
theorem nan_i64 (x : Int) (w : World) : Calls Tryz.prog 105 #[.int .i64 x] w fun e w' => e = .returned (.bool false) ∧ w = w' := by
  have t0 : (x != x) = false := by simp
  go_enter Tryz.func105, Tryz.ntmps105
  go_wp2
  go_ret
  exact ⟨rfl, rfl⟩
theorem cmp_i64 (x y : Int) (w : World) : Calls Tryz.prog 102 #[.int .i64 x, .int .i64 y] w fun e w' => e = .returned (.int .i64 (cmpI x y)) ∧ w = w' := by
  have f1 := Lib.hid (fun z X => nan_i64 z X)
  unfold cmpI
  by_cases h1 : x < y
  · rw [if_pos h1]
    go_enter Tryz.func102, Tryz.ntmps102
    go_wp2_with (go_at_call 105; (with_reducible refine (f1.out _ _).mono ?_); rintro e w1 ⟨rfl, rfl⟩)
    go_ret
    exact ⟨rfl, rfl⟩
  · rw [if_neg h1]
    by_cases h2 : y < x
    · rw [if_pos h2]
      go_enter Tryz.func102, Tryz.ntmps102
      go_wp2_with (go_at_call 105; (with_reducible refine (f1.out _ _).mono ?_); rintro e w1 ⟨rfl, rfl⟩)
      go_ret
      exact ⟨rfl, rfl⟩
    · rw [if_neg h2]
      go_enter Tryz.func102, Tryz.ntmps102
      go_wp2_with (go_at_call 105; (with_reducible refine (f1.out _ _).mono ?_); rintro e w1 ⟨rfl, rfl⟩)
      go_ret
      exact ⟨rfl, rfl⟩
theorem or_any (a b : Int) (g : Nat) (w : World) (h0 : w.cell? ⟨g, 0, none⟩ = some (.int .i64 a)) (h1 : w.cell? ⟨g, 1, none⟩ = some (.int .i64 b)) :
    Calls Tryz.prog 101 #[.slice (some ⟨g, 0, none⟩) 2 2] w fun e w' => e = .returned (.int .i64 (orI a b)) ∧ w = w' := by
  have H0 := Lib.hid h0; have H1 := Lib.hid h1
  have HR : Hid (orI a b = if a ≠ 0 then a else b) := Lib.hid rfl
  clear h0 h1
  generalize orI a b = R at *
  go_enter Tryz.func101, Tryz.ntmps101
  go_upto_region 3 with fail
  go_loopw [8] (fun i wr => w = wr ∧ ((i = .int .i64 0) ∨ (i = .int .i64 1 ∧ Hid (a = 0)) ∨ (i = .int .i64 2 ∧ Hid (a = 0) ∧ Hid (b = 0)))) (fun i _ => 2 - (intOf i).toNat)
  case atStart => exact ⟨rfl, .inl rfl⟩
  case round =>
    obtain ⟨rfl, hi⟩ := hrel
    rcases hi with rfl | ⟨rfl, Ha⟩ | ⟨rfl, Ha, Hb⟩
    · have h0 := H0.out
      by_cases ha : a = 0
      · have t0 : (a != 0) = false := by simpa using ha
        have Ha := Lib.hid ha
        clear ha
        go_wp2
        refine ⟨⟨by first | rfl | trivial, .inr (.inl ⟨by first | rfl | trivial, Ha⟩)⟩, ?_⟩
        simp [intOf]
      · have t0 : (a != 0) = true := by simpa using ha
        have HR2 := Lib.hid (show R = a by rw [HR.out, if_pos ha])
        clear ha
        go_wp2
        go_ret
        exact ⟨by rw [HR2.out]; rfl, by first | rfl | trivial⟩
    · have h1 := H1.out
      by_cases hb : b = 0
      · have t0 : (b != 0) = false := by simpa using hb
        have Hb := Lib.hid hb
        clear hb
        go_wp2
        refine ⟨⟨by first | rfl | trivial, .inr (.inr ⟨by first | rfl | trivial, Ha, Hb⟩)⟩, ?_⟩
        simp [intOf]
      · have t0 : (b != 0) = true := by simpa using hb
        have HR2 := Lib.hid (show R = b by rw [HR.out, if_neg (by rw [Ha.out]; simp)])
        clear hb
        go_wp2
        go_ret
        exact ⟨by rw [HR2.out]; rfl, by first | rfl | trivial⟩
    · have HR2 := Lib.hid (show R = 0 by rw [HR.out, if_neg (by rw [Ha.out]; simp), Hb.out])
      go_wp2
      go_ret
      exact ⟨by rw [HR2.out]; rfl, by first | rfl | trivial⟩
theorem S_allocW {W w : World} (h : Hid (Below W.heap.size W w)) (o : Obj) : Hid (Below W.heap.size W (w.alloc o)) := h.out.alloc h.out.size o
def tmv (x : Tm) : Value := .agg #[.int .i64 x.id, .int .i64 x.at', .int .i64 x.turn]
set_option maxHeartbeats 4000000 in
set_option maxRecDepth 100000 in
theorem before_any (a b : Tm) (w : World) : Calls Tryz.prog 91 #[tmv a, tmv b] w fun e w' => e = .returned (.int .i64 (befF a b)) ∧ Below w.heap.size w w' := by
  have f1 := Lib.hid (fun x y X => cmp_i64 x y X)
  have f2 := Lib.hid (fun x y X => cmp_i x y X)
  have f3 := Lib.hid (fun u v g X h0 h1 => or_any u v g X h0 h1)
  have HB : Hid (befF a b = orI (cmpI a.at' b.at') (cmpI a.turn b.turn)) := Lib.hid rfl
  generalize befF a b = r at *
  unfold tmv
  go_enter Tryz.func91, Tryz.ntmps91
  go_upto_region 1 with fail
  refine name_world fun V hV => ?_
  have hV0 : V.heap[w.heap.size]? = some (.cells #[.int .i64 a.id, .int .i64 a.at', .int .i64 a.turn] 150 (0, 0)) := by rw [hV]; exact box_alloc (heap_alloc_new _ _) _
  have hV1 : V.heap[w.heap.size + 1]? = some (.cells #[.int .i64 b.id, .int .i64 b.at', .int .i64 b.turn] 150 (0, 0)) := by rw [hV]; exact heap_new_at _ (by simp)
  have HBV : Hid (Below w.heap.size w V) := Lib.hid (by rw [hV]; exact ((Below.refl _ _).alloc (Nat.le_refl _) _).alloc (by simp) _)
  clear hV
  obtain ⟨ax, ay⟩ := box_rules hV0
  obtain ⟨bx, by'⟩ := box_rules hV1
  have la := box_lt hV0; have lb := box_lt hV1
  clear hV0 hV1
  obtain ⟨g0, hg0⟩ : ∃ g0, w.heap.size = g0 := ⟨_, rfl⟩
  have HG0 := Lib.hid hg0
  rw [hg0] at HBV ax ay bx by' la lb
  clear hg0
  have hS0 : Hid (Below V.heap.size V V) := Lib.hid (Below.refl _ _)
  have hA := fun w' (h : Hid (Below V.heap.size V w')) => (bcell h.out).1 g0
  have hA2 := fun w' (h : Hid (Below V.heap.size V w')) i => (bcell h.out).1 g0 i la
  have hB2 := fun w' (h : Hid (Below V.heap.size V w')) i => (bcell h.out).1 (g0 + 1) i lb
  simp only [ax] at hA2
  simp only [bx] at hB2
  clear hA
  rw [HG0.out]
  go_region_held3 (fun w' => Hid (Below V.heap.size V w')) ((first | assumption | exact S_drewW (by assumption) | exact S_allocW (by assumption) _)) ((first
    | (go_at_call 102; (with_reducible refine (f1.out _ _ _).mono ?_); rintro e w' ⟨rfl, rfl⟩)
    | (go_at_call 103; (with_reducible refine (f2.out _ _ _).mono ?_); rintro e w' ⟨rfl, rfl⟩)
    | (go_at_call 101; refine (f3.out (cmpI a.at' b.at') (cmpI a.turn b.turn) V.heap.size _ (by exact new_cell (w := V) rfl) (by exact new_cell (w := V) rfl)).mono ?_; rintro e w' ⟨rfl, rfl⟩)))
  all_goals
    go_wp2
    go_ret
    exact ⟨by rw [HB.out]; rfl, by rw [HG0.out]; exact HBV.out.trans (((((Below.refl _ _).alloc (Nat.le_refl _) _).drew) : Below V.heap.size V _).mono (Nat.le_of_lt la))⟩
/-- The one of a list that comes ahead of the others. -/
def bestG (ts : List Tm) (b : Nat) (l : List Nat) : Nat := l.foldl (fun b i => if befF (ts.getD i tm0) (ts.getD b tm0) < 0 then i else b) b
theorem bestG_snoc (ts : List Tm) (b : Nat) (l : List Nat) (i : Nat) : bestG ts b (l ++ [i]) = if befF (ts.getD i tm0) (ts.getD (bestG ts b l) tm0) < 0 then i else bestG ts b l := by unfold bestG; rw [List.foldl_append]; rfl
theorem bestG_in (ts : List Tm) : ∀ (l : List Nat) (b : Nat), bestG ts b l = b ∨ bestG ts b l ∈ l
  | [], _ => .inl rfl
  | i :: l, b => by
    show bestG ts (if befF (ts.getD i tm0) (ts.getD b tm0) < 0 then i else b) l = b ∨ bestG ts (if befF (ts.getD i tm0) (ts.getD b tm0) < 0 then i else b) l ∈ i :: l
    rcases bestG_in ts l (if befF (ts.getD i tm0) (ts.getD b tm0) < 0 then i else b) with h | h
    · rw [h]
      split
      · exact .inr (by simp)
      · exact .inl rfl
    · exact .inr (List.mem_cons_of_mem _ h)
/-- What the loop of Pop holds. -/
structure PpI {L : List Nat} (w0 : World) (pw : Nat) (ts : List Tm) (b0 s : Nat) (pre : List (El L)) (W : World) : Prop where
  ptr : W.heap[s]? = some (.cells #[.pointer (some ⟨pw, 0, none⟩)] 80 (0, 0))
  res : W.heap[s + 1]? = some (.cells #[.int .i64 0, .int .i64 0] 140 (0, 0))
  best : W.heap[s + 2]? = some (.cells #[.int .i64 (bestG ts b0 (pv pre) : Nat)] 3 (0, 0))
  low : Below w0.heap.size w0 W
theorem ppI_own {L : List Nat} {w0 : World} {pw : Nat} {ts : List Tm} {b0 s B : Nat} (hB : s + 2 < B) (h0 : w0.heap.size ≤ s) : OwnFrom B (PpI (L := L) w0 pw ts b0 s) := fun pre W W' row h hg hr =>
  ⟨ownFrom_boxP (β := Unit) (by omega) () W W' row h.ptr hg hr, ownFrom_boxP (β := Unit) (by omega) () W W' row h.res hg hr, ownFrom_boxP (β := Unit) (by omega) () W W' row h.best hg hr, ownFrom_belowP (β := Unit) (by omega) (Nat.le_refl _) () W W' row h.low hg hr⟩
theorem name_postM {P : Program} {fn : Func} {R : Ending → World → Prop} {a : Act} {w : World} (h : ∀ W, W = w → bodyPostM Fence.wide 9 P fn R .ret a W) : bodyPostM Fence.wide 9 P fn R .ret a w := h w rfl
set_option maxHeartbeats 4000000 in
set_option maxRecDepth 100000 in
theorem pop_none (f : WhF) (room : Nat) (s : WhS) (w : World) (h : WhM w f room s) (hl : s.ls 257 = []) :
    Calls Tryz.prog 74 #[.pointer (some ⟨f.pw, 0, none⟩)] w fun e w' => e = .returned (.tuple #[.agg #[.int .i64 0, .int .i64 0], .bool false]) ∧ Below w.heap.size w w' := by
  have f1 : Hid (∀ X, Below w.heap.size w X → Calls Tryz.prog 80 #[.pointer (some ⟨f.pp, 0, none⟩), .int .i64 257] X fun e w' => e = .returned (fstV (s.ls 257)) ∧ X = w') := Lib.hid (fun X hX => first_any 257 f.pp f.bl f.be room 258 s.pile s.ls X (h.below hX).pool (by omega))
  rw [hl] at f1
  dsimp only [fstV] at f1
  obtain ⟨xx, xy⟩ := box_rules (h).box
  have xz := (box_rules (h).tm).2
  have lx := box_lt (h).box
  clear h hl
  refine calls_marks Tryz.func74 rfl ?_
  simp only [Tryz.ntmps74, List.size_toArray, List.length_cons, List.length_nil, Nat.reduceAdd, Nat.reduceSub, Array.replicate_succ, Array.replicate_zero, List.push_toArray, List.append_toArray, List.nil_append, List.cons_append]
  go_wp2_with (go_at_call 80; refine (f1.out _ (((Below.refl _ _).alloc (Nat.le_refl _) _).alloc (by simp) _)).mono ?_; rintro e w1 ⟨rfl, rfl⟩)
  refine name_postM fun V hV => ?_
  have hE : V.heap[w.heap.size + 1]? = some (.cells #[.int .i64 0, .int .i64 0] 140 (0, 0)) := by rw [hV]; exact box_alloc (heap_new_at _ (by simp)) _
  have hB : Below w.heap.size w V := by rw [hV]; exact (((Below.refl _ _).alloc (Nat.le_refl _) _).alloc (by simp) _).alloc (by simp; omega) _
  obtain ⟨p1, _⟩ := box_rules hE
  clear hV
  refine post_plain (v := .tuple #[.agg #[.int .i64 0, .int .i64 0], .bool false]) (by simp [results, Tryz.f74, go_sem, p1]) ?_
  exact ⟨rfl, hB⟩
set_option maxHeartbeats 8000000 in
set_option maxRecDepth 100000 in
theorem pop_some (f : WhF) (room : Nat) (s : WhS) (w : World) (b0 b : Nat) (r a c : List Nat) (h : WhM w f room s) (hf : FbL s) (hr : room ≤ 4096) (hl : s.ls 257 = b0 :: r) (hb : bestG s.ts b0 (s.ls 257) = b) (hab : s.ls 257 = a ++ b :: c)
    (hid : I64N (s.ts.getD b tm0).id) (hm : (s.M (s.ts.getD b tm0).id).isSome = true) :
    Calls Tryz.prog 74 #[.pointer (some ⟨f.pw, 0, none⟩)] w fun e w' => e = .returned (.tuple #[.agg #[.int .i64 (s.ts.getD b tm0).id, .int .i64 (s.ts.getD b tm0).at'], .bool true]) ∧ WhM w' f room (outS s 257 b a c) ∧ Tn f.l w w' := by
  have f1 : Hid (∀ X, Below w.heap.size w X → Calls Tryz.prog 80 #[.pointer (some ⟨f.pp, 0, none⟩), .int .i64 257] X fun e w' => e = .returned (fstV (s.ls 257)) ∧ X = w') := Lib.hid (fun X hX => first_any 257 f.pp f.bl f.be room 258 s.pile s.ls X (h.below hX).pool (by omega))
  rw [hl] at f1
  dsimp only [fstV] at f1
  have f2 : Hid (∀ X, Calls Tryz.prog 90 #[.pointer (some ⟨f.pp, 0, none⟩), .int .i64 257] X fun e w' => e = .returned (.func (.func 99) #[] #[.pointer (some ⟨X.heap.size, 0, none⟩), .pointer (some ⟨X.heap.size + 1, 0, none⟩)]) ∧ (X.alloc (.cells #[.pointer (some ⟨f.pp, 0, none⟩)] 104)).alloc (.cells #[.int .i64 257] 3) = w') := Lib.hid (fun X => peach_any 257 f.pp X)
  have hrm := (h.nd (k := 257) (by omega)).2.1
  have hbr : b < room := hrm b (by rw [hab]; simp)
  have hb0r : b0 < room := hrm b0 (by rw [hl]; simp)
  have f3 := Lib.hid (fun X (hX : WhM X f room s) => drop_any f room s X 257 b a c hX hf hr (by omega) hab hbr hid hm)
  rw [show noteS (outS s 257 b a c) 257 = outS s 257 b a c from if_neg (by omega)] at f3
  have H := Lib.hid h
  have HFl := Lib.hid h.lt
  have HIn : Hid (∀ i ∈ s.ls 257, i < room) := Lib.hid hrm
  have HB := Lib.hid hb
  have Hb0 := Lib.hid hb0r
  obtain ⟨xx, xy⟩ := box_rules (h).box
  have xz := (box_rules (h).tm).2
  have lx := box_lt (h).box
  generalize outS s 257 b a c = S' at *
  clear h hf hl hb hab hid hm hrm
  refine calls_marks Tryz.func74 rfl ?_
  simp only [Tryz.ntmps74, List.size_toArray, List.length_cons, List.length_nil, Nat.reduceAdd, Nat.reduceSub, Array.replicate_succ, Array.replicate_zero, List.push_toArray, List.append_toArray, List.nil_append, List.cons_append]
  go_upto_region 2 with (go_at_call 80; refine (f1.out _ (((Below.refl _ _).alloc (Nat.le_refl _) _).alloc (by simp) _)).mono ?_; rintro e w1 ⟨rfl, rfl⟩)
  refine name_world fun V hV => ?_
  have hBV : Below w.heap.size w V := by rw [hV]; exact (((Below.refl _ _).alloc (Nat.le_refl _) _).alloc (by simp) _).alloc (by simp; omega) _
  have hz : V.heap.size = w.heap.size + 3 := by rw [hV]; simp
  have v0 : V.heap[w.heap.size]? = some (.cells #[.pointer (some ⟨f.pw, 0, none⟩)] 80 (0, 0)) := by rw [hV]; exact box_alloc (box_alloc (heap_alloc_new _ _) _) _
  have v1 : V.heap[w.heap.size + 1]? = some (.cells #[.int .i64 0, .int .i64 0] 140 (0, 0)) := by rw [hV]; exact box_alloc (heap_new_at _ (by simp)) _
  have v2 : V.heap[w.heap.size + 2]? = some (.cells #[.int .i64 b0] 3 (0, 0)) := by rw [hV]; exact heap_new_at _ (by simp)
  have HV0 := Lib.hid v0; have HV1 := Lib.hid v1; have HV2 := Lib.hid v2
  have HZ := Lib.hid hz; have HBV := Lib.hid hBV
  clear hV xx xy xz lx f1
  obtain ⟨p0, q0⟩ := box_rules v0
  obtain ⟨xx, xy⟩ := box_rules ((H.out.below HBV.out)).box
  have xz := (box_rules ((H.out.below HBV.out)).tm).2
  have lx := box_lt ((H.out.below HBV.out)).box
  clear v0 v1 v2 hz hBV
  go_wp2_with (go_at_call 90; (with_reducible refine (f2.out _).mono ?_); rintro e w1 ⟨rfl, rfl⟩)
  refine name_world fun W6 hW6 => ?_
  have hBW : Below V.heap.size V W6 := by rw [hW6]; exact ((Below.refl _ _).alloc (Nat.le_refl _) _).alloc (by simp) _
  have hB6 : Below w.heap.size w W6 := HBV.out.trans (hBW.mono HBV.out.size)
  have x0 := box_keep HV0.out hBW
  have x1 := box_keep HV1.out hBW
  have x2 := box_keep HV2.out hBW
  have x3 : W6.heap[w.heap.size + 3]? = some (.cells #[.pointer (some ⟨f.pp, 0, none⟩)] 104 (0, 0)) := by rw [hW6, ← HZ.out]; exact box_alloc (heap_alloc_new _ _) _
  have x4 : W6.heap[w.heap.size + 4]? = some (.cells #[.int .i64 257] 3 (0, 0)) := by rw [hW6]; exact heap_new_at _ (by simp [HZ.out])
  have hs6 := box_lt x4
  clear hW6 xx xy xz lx p0 q0 f2
  have hit := peach_iter 257 f.pp f.bl f.be room 258 s.pile s.ls (w.heap.size + 3) (w.heap.size + 4) (w.heap.size + 5) [w.heap.size + 2] w W6 hB6 (by omega) (by simp) (by omega) (by simp) x3 x4 H.out.pool (by omega)
  have hI0 : PpI (L := s.ls 257) w f.pw s.ts b0 w.heap.size [] W6 := ⟨x0, x1, x2, hB6⟩
  rw [HZ.out]
  clear x0 x1 x2 x3 x4
  refine (wpIn_wide (n := 9)).1 (wpIn_rangeFunc_ownH (F := Fence.wide) (n := 9) rfl (by omega) rfl trivial (enters_of Tryz.func99 (by kernel_rfl) rfl) hit (fun h k => h.trans k) (KeepsLow.put (by omega)) (Below.refl _ _) (fun _ => rfl)
    (PpI w f.pw s.ts b0 w.heap.size) LsX (ppI_own (by omega) (Nat.le_refl _)) (fun _ _ _ _ _ h _ _ => h.elim) hI0
    (fun x a' W => a' = { tmps := #[.pointer (some ⟨f.pw, 0, none⟩), .pointer (some ⟨w.heap.size, 0, none⟩), .pointer (some ⟨w.heap.size + 1, 0, none⟩), .bool false, .pointer (some ⟨w.heap.size + 1 + 1, 0, none⟩), .bool true, .int .i64 (x.1 : Nat), undef, .tuple #[.int .i64 b0, .bool true], .pointer (some ⟨f.pw, 0, none⟩), .pointer (some ⟨f.pw, 0, none⟩), .pointer (some ⟨f.pw, 2, none⟩), .pointer (some ⟨f.pp, 0, none⟩), .tuple #[.int .i64 b0, .bool true], .int .i64 b0, .bool true, .bool true, .bool false, undef, .pointer (some ⟨f.pw, 0, none⟩), .pointer (some ⟨f.pw, 0, none⟩), .pointer (some ⟨f.pw, 2, none⟩), .pointer (some ⟨f.pp, 0, none⟩),
      .func (.func 99) #[] #[.pointer (some ⟨w.heap.size + 3, 0, none⟩), .pointer (some ⟨w.heap.size + 3 + 1, 0, none⟩)], .int .i64 (x.1 : Nat), undef, undef, undef, undef, undef, undef, undef, undef, undef, undef, undef, undef, undef, undef, undef, undef, undef, undef, undef, undef, undef, undef, undef, undef, undef, undef, undef, undef, undef], defers := [] })
    (fun x a' s W W' row hs hg hr => hs)
    ?assign ?body ?done ?stop)
  case assign =>
    rintro l' pre x W K hI hK
    gi_wp2
    exact hK _ _ (KeepsFrom.refl _ _) (KeepsLow.refl _) hI rfl
  case body =>
    rintro l' pre ⟨i, hi⟩ a' W hl' _ hI rfl hlen
    clear hit hI0 hB6
    have hir := HIn.out i hi
    have HI := Lib.hid hI
    have HW := Lib.hid (H.out.below hI.low)
    obtain ⟨px, py⟩ := box_rules hI.ptr
    have hmn := hI.best
    obtain ⟨bb, hbb⟩ : ∃ bb, bestG s.ts b0 (pv pre) = bb := ⟨_, rfl⟩
    rw [hbb] at hmn
    have HMn := Lib.hid hmn
    obtain ⟨mx, my⟩ := box_rules hmn
    have hlt := box_lt hmn
    have hbbr : bb < room := by
      rcases bestG_in s.ts (pv pre) b0 with h | h
      · rw [← hbb, h]; exact Hb0.out
      · rw [hbb] at h
        obtain ⟨y, _, hy⟩ := List.mem_map.1 h
        rw [← hy]
        exact HIn.out _ y.2
    obtain ⟨x, hx, t1, t2, t3⟩ := HW.out.tmAt hir
    obtain ⟨y, hy, u1, u2, u3⟩ := HW.out.tmAt hbbr
    have HBest : Hid (bestG s.ts b0 (pv (pre ++ [⟨i, hi⟩])) = if befF x y < 0 then i else bb) := Lib.hid (by
      have h9 := bestG_snoc s.ts b0 (pv pre) i
      rw [hbb, hx, hy] at h9
      rw [pv, List.map_append]; exact h9)
    have fB : Hid (∀ X, Calls Tryz.prog 91 #[.agg #[.int .i64 x.id, .int .i64 x.at', .int .i64 x.turn], .agg #[.int .i64 y.id, .int .i64 y.at', .int .i64 y.turn]] X fun e w' => e = .returned (.int .i64 (befF x y)) ∧ Below X.heap.size X w') := Lib.hid (fun X => before_any x y X)
    clear hI hx hy hbb hmn
    generalize befF x y = bf at *
    obtain ⟨xx, xy⟩ := box_rules (HW.out).box
    have xz := (box_rules (HW.out).tm).2
    have lx := box_lt (HW.out).box
    dsimp only
    by_cases h9 : bf < 0
    · have HBest2 := Lib.hid (HBest.out.trans (if_pos h9))
      clear HBest
      gi_upto_region 6 with fail
      refine round_still_tail 14 (by repeat (first | exact letsOut_ownG | refine letsOut_then ?_ | refine letsOut_block ?_)) (by kernel_rfl) (by kernel_rfl) (by kernel_rfl) ?_
      simp only [List.take_succ_cons, List.take_zero, List.drop_succ_cons, List.drop_zero]
      repeat still_step
      refine wpStill_nil ?_
      go_wp2_with (go_at_call 91; (with_reducible refine (fB.out _).mono ?_); rintro e w3 ⟨rfl, hb3⟩; have HB3 : Hid (Below W.heap.size W w3) := Lib.hid (undrew hb3); clear hb3)
      have HPB := Lib.hid (box_keep HMn.out HB3.out)
      obtain ⟨kx, ky⟩ := box_rules HPB.out
      have hl3 := box_lt HPB.out
      gi_wp2
      refine ⟨?_, ?_, ⟨?_, ?_, ?_, ?_⟩⟩
      · exact (ko_set (ko_below HB3.out) _ _).from _
      · have hkl : KeepsLow w.heap.size (w.heap.size + 5) [w.heap.size + 2] W w3 := (KeepsLow.refl W).call HB3.out (by omega)
        exact hkl.set (p := ⟨w.heap.size + 2, 0, none⟩) (by show _ ≤ w.heap.size + 2; omega) (.inl (by simp)) _
      · exact box_far (box_keep HI.out.ptr HB3.out) (p := ⟨w.heap.size + 2, 0, none⟩) (by show _ ≠ w.heap.size + 2; omega) _
      · exact box_far (box_keep HI.out.res HB3.out) (p := ⟨w.heap.size + 2, 0, none⟩) (by show _ ≠ w.heap.size + 2; omega) _
      · rw [HBest2.out]
        exact box_set (t := 3) (cs := #[.int .i64 bb]) (i := 0) HPB.out _
      · exact (HI.out.low.trans (HB3.out.mono HI.out.low.size)).setCell (p := ⟨w.heap.size + 2, 0, none⟩) (by show _ ≤ w.heap.size + 2; omega) _
    · have HBest2 := Lib.hid (HBest.out.trans (if_neg h9))
      clear HBest
      gi_upto_region 6 with fail
      refine round_still_tail 14 (by repeat (first | exact letsOut_ownG | refine letsOut_then ?_ | refine letsOut_block ?_)) (by kernel_rfl) (by kernel_rfl) (by kernel_rfl) ?_
      simp only [List.take_succ_cons, List.take_zero, List.drop_succ_cons, List.drop_zero]
      repeat still_step
      refine wpStill_nil ?_
      go_wp2_with (go_at_call 91; (with_reducible refine (fB.out _).mono ?_); rintro e w3 ⟨rfl, hb3⟩; have HB3 : Hid (Below W.heap.size W w3) := Lib.hid (undrew hb3); clear hb3)
      have HPB := Lib.hid (box_keep HMn.out HB3.out)
      gi_wp2
      refine ⟨?_, ?_, ⟨?_, ?_, ?_, ?_⟩⟩
      · exact (ko_below HB3.out).from _
      · exact (KeepsLow.refl W).call HB3.out (by omega)
      · exact box_keep HI.out.ptr HB3.out
      · exact box_keep HI.out.res HB3.out
      · rw [HBest2.out]; exact HPB.out
      · exact HI.out.low.trans (HB3.out.mono HI.out.low.size)
  case done =>
    intro D' xs W hD hS hI hK
    have hbst := hI.best
    rw [hS, HB.out] at hbst
    have HI := Lib.hid hI; have HK := Lib.hid hK; have HBs := Lib.hid hbst
    have HW := Lib.hid (H.out.below hI.low)
    clear hit hI0 hB6 hI hK hS
    obtain ⟨px, py⟩ := box_rules HI.out.ptr
    obtain ⟨mx, my⟩ := box_rules hbst
    have lm := box_lt hbst
    obtain ⟨x, hx, t1, t2, t3⟩ := HW.out.tmAt hbr
    have HX := Lib.hid hx
    clear hx hbst
    obtain ⟨xx, xy⟩ := box_rules (HW.out).box
    have xz := (box_rules (HW.out).tm).2
    have lx := box_lt (HW.out).box
    dsimp only
    have lp := box_lt HI.out.ptr
    have lt9 := box_lt HW.out.tm
    go_upto_region 8 with fail
    go_region
    go_upto_region 9 with fail
    refine name_world fun U hU => ?_
    have hbU : Below W.heap.size W U := by rw [hU]; exact ((Below.refl _ _).alloc (Nat.le_refl _) _).drew
    have hx7 : U.heap[W.heap.size]? = some (.cells #[.int .i64 x.id, .int .i64 x.at'] 140 (0, 0)) := by rw [hU]; exact heap_alloc_new _ _
    have HX7 := Lib.hid hx7
    have HWU := Lib.hid (HW.out.below hbU)
    have HU0 := Lib.hid (box_keep HI.out.ptr hbU)
    have HU1 := Lib.hid (box_keep HI.out.res hbU)
    have HU2 := Lib.hid (box_keep HBs.out hbU)
    have HKU := Lib.hid (box_keep HK.out hbU)
    have HLU := Lib.hid (HI.out.low.trans (hbU.mono HI.out.low.size))
    have hszU : w.heap.size ≤ W.heap.size := by omega
    clear hU hbU px py mx my lm xx xy xz lx t1 t2 t3 lp lt9
    obtain ⟨p0, q0⟩ := box_rules HU0.out
    obtain ⟨p2, q2⟩ := box_rules HU2.out
    clear hx7
    have hnf : ∀ j, w.heap.size ≤ j → j ∉ f.l := fun j hj hm => by have := HFl.out j hm; omega
    have HNf := Lib.hid hnf
    clear hnf
    go_upto_region 10 with (go_at_call 84; (with_reducible refine (f3.out _ HWU.out).mono ?_); rintro e w4 ⟨rfl, hm4, ht4⟩; have HM4 := Lib.hid hm4; have HT4 := Lib.hid ht4; clear hm4 ht4)
    have HY7 := Lib.hid (HT4.out.box HX7.out (HNf.out _ hszU))
    have HY1 := Lib.hid (HT4.out.box HU1.out (HNf.out _ (by omega)))
    have HKY := Lib.hid (HT4.out.box HKU.out (HNf.out _ (by omega)))
    have HTw := Lib.hid ((Tn.of_below f.l HLU.out).trans HT4.out)
    clear p0 q0 p2 q2
    obtain ⟨p7, q7⟩ := box_rules HY7.out
    obtain ⟨p1, q1⟩ := box_rules HY1.out
    have l1 := box_lt HY1.out
    have e71 : w.heap.size + 1 ≠ W.heap.size := fun e => by
      have h1 := HU1.out; have h7 := HX7.out
      rw [e] at h1
      have := box_lt HI.out.res
      omega
    go_wp2
    refine name_postM fun Z hZ => ?_
    have hR : Z.heap[w.heap.size + 1]? = some (.cells #[.int .i64 x.id, .int .i64 x.at'] 140 (0, 0)) := by
      rw [hZ]; exact box_set (t := 140) (cs := #[.int .i64 x.id, .int .i64 0]) (i := 1) (box_set (t := 140) (cs := #[.int .i64 0, .int .i64 0]) (i := 0) HY1.out _) _
    have hDn : D' ≠ w.heap.size + 1 := by omega
    have hKZ : Z.heap[D']? = some (.deferred (some [])) := by
      rw [hZ]; exact box_far (box_far HKY.out (p := ⟨w.heap.size + 1, 0, none⟩) hDn _) (p := ⟨w.heap.size + 1, 1, none⟩) hDn _
    have hTZ : Tn f.l w Z := by
      rw [hZ]; exact (HTw.out.setNew (p := ⟨w.heap.size + 1, 0, none⟩) (Nat.le_succ _) _).setNew (p := ⟨w.heap.size + 1, 1, none⟩) (Nat.le_succ _) _
    have hMZ : WhM Z f room S' := by
      rw [hZ]
      have hne : ∀ b ∈ f.l, b ∉ [w.heap.size + 1] := fun b hb => by have := HFl.out b hb; simp; omega
      exact HM4.out.tn (((Tn.refl [w.heap.size + 1] w4).setCell (p := ⟨w.heap.size + 1, 0, none⟩) (by simp) _).setCell (p := ⟨w.heap.size + 1, 1, none⟩) (by simp) _) hne
    clear hZ
    obtain ⟨z1, _⟩ := box_rules ((World.putObj_heap_other (o := .deferred none) (Ne.symm hDn)).trans hR)
    refine post_mark (v := .tuple #[.agg #[.int .i64 x.id, .int .i64 x.at'], .bool true]) hKZ (by simp [results, Tryz.f74, go_sem, z1]) ?_
    have hD0 : ∀ b ∈ f.l, b ∉ [D'] := fun b hb => by have := HFl.out b hb; simp; omega
    have hTD : Tn [D'] Z (Z.putObj D' (.deferred none)) := (Tn.refl _ Z).grown (grownBy_putObj' _ D' _) (fun k e => by cases e; simp)
    have hTD2 : Tn f.l w (Z.putObj D' (.deferred none)) := hTZ.grown (grownBy_putObj' _ D' _) (fun k e => by cases e; right; omega)
    exact ⟨by rw [HX.out], hMZ.tn hTD hD0, hTD2⟩
  case stop =>
    intro D' c' pre W hD hS hX hK
    exact hX.elim
end Go.Proofs.YtiblpnadninmbaaGreatDoor

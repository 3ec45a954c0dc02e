/- Package solve: the walk of Steps. Conditions: lists that read. -/
import Derived.Test.YtgampofpabllbaaGreatRtH
namespace Go.Proofs.YtgampofpabllbaaGreat
open Go.RowKit Go.Shelf
attribute [local go_sem] Oper.semAt_some

theorem sk_i64 : SlK Tryz.prog 66 2 1 8 := SlK.mk' (z := .int .i64 0) Tryz.underlying66 (by kernel_rfl) rfl (by decide)
/-- The steps come, and why not. -/
def RetSt (r : Int × Int) (w : World) (e : Ending) (w' : World) : Prop :=
  ∃ (A : Option Addr) (c : Nat) (xs : List Int), e = .returned (.tuple #[.slice A xs.length c, .int .i64 r.2]) ∧ (r.2 = 0 → 0 < xs.length ∧ xs.getD (xs.length - 1) 0 = r.1) ∧ xs.length ≤ 4096 ∧ Rd w' A (xs.map (.int .i64)) ∧ Below w.heap.size w w'
theorem retSt_no {r : Int × Int} {w w' : World} {v : Value} (hv : v = .tuple #[.slice none 0 0, .int .i64 r.2]) (h : r.2 ≠ 0) (hb : Below w.heap.size w w') : RetSt r w (.returned v) w' :=
  ⟨none, 0, [], by rw [hv]; rfl, fun h2 => absurd h2 h, Nat.zero_le _, Rd.nil _ _, hb⟩
/-- All that came so far are times up to the limit. -/
def stFit (limit : Int) (pre : List Stp) : Prop := (∀ x ∈ pre, x.y = 0 ∧ x.t ≤ limit) ∧ pre.length ≤ 4096
theorem stL_mem {base : Int} {l : List Ld} {j : Nat} : ∀ {k : Nat}, j < k → (⟨stW base l j, 0⟩ : Stp) ∈ stL base l k
  | k + 1, h => by
    show _ ∈ stL base l k ++ _
    by_cases e : j = k
    · subst e; simp
    · exact List.mem_append_left _ (stL_mem (by omega))
theorem st_done {base : Int} {l : List Ld} {limit : Int} {xs : List Stp} (h : StAll base l xs) (hf : stFit limit xs) : ∃ k, xs = stL base l (k + 1) ∧ stGo base l limit 4096 base = (stW base l k, 0) := by
  obtain ⟨k, hk, ⟨rfl, h1, h2⟩ | ⟨rfl, h1⟩⟩ := h
  · refine ⟨k, rfl, ?_⟩
    have hl := hf.2
    rw [stL_len] at hl
    have hle : ∀ j, j < k + 1 → stW base l j ≤ limit := fun j hj => (hf.1 _ (stL_mem hj)).2
    obtain ⟨f, e⟩ : ∃ f, 4096 = (f + 1) + k := ⟨4095 - k, by omega⟩
    rw [e, stGo_skip (f + 1) hk (fun j hj => hle j (by omega))]
    have := hle k (by omega)
    show (if limit < stW base l k then _ else _) = _
    rw [if_neg (by omega), if_neg (by simp [h1]), if_pos h2]
  · exact absurd (hf.1 ⟨0, _⟩ (List.mem_append_right _ (List.mem_singleton.2 rfl))).1 h1
theorem st_err {base : Int} {l : List Ld} {limit : Int} {pre : List Stp} {x : Stp} (h : StPre base l (pre ++ [x])) (hf : stFit limit pre) (hx : x.y ≠ 0) : stGo base l limit 4096 base = (0, x.y) := by
  obtain ⟨k, hk, e | ⟨e, h1⟩⟩ := h
  · obtain ⟨_, e2⟩ := List.append_inj' (t₁ := [x]) (t₂ := [⟨stW base l k, 0⟩]) e rfl
    injection e2 with e2
    subst e2
    exact absurd rfl hx
  · obtain ⟨rfl, e2⟩ := List.append_inj' (t₁ := [x]) e rfl
    injection e2 with e2
    subst e2
    have hl := hf.2
    rw [stL_len] at hl
    have hle : ∀ j, j < k + 1 → stW base l j ≤ limit := fun j hj => (hf.1 _ (stL_mem hj)).2
    obtain ⟨f, e⟩ : ∃ f, 4096 = (f + 1) + k := ⟨4095 - k, by omega⟩
    rw [e, stGo_skip (f + 1) hk (fun j hj => hle j (by omega))]
    have := hle k (by omega)
    show (if limit < stW base l k then _ else _) = _
    rw [if_neg (by omega), if_pos h1]
theorem st_late {base : Int} {l : List Ld} {limit : Int} {pre : List Stp} {x : Stp} (h : StPre base l (pre ++ [x])) (hf : stFit limit pre) (hx : x.y = 0) (hlate : limit < x.t ∨ pre.length = 4096) : stGo base l limit 4096 base = (0, 11) := by
  obtain ⟨k, hk, e | ⟨e, h1⟩⟩ := h
  · obtain ⟨rfl, e2⟩ := List.append_inj' (t₁ := [x]) (t₂ := [⟨stW base l k, 0⟩]) e rfl
    injection e2 with e2
    subst e2
    have hl := hf.2
    rw [stL_len] at hl hlate
    have hle : ∀ j, j < k → stW base l j ≤ limit := fun j hj => (hf.1 _ (stL_mem hj)).2
    obtain ⟨f, e⟩ : ∃ f, 4096 = f + k := ⟨4096 - k, by omega⟩
    rw [e, stGo_skip f hk hle]
    cases f with
    | zero => rfl
    | succ f =>
      have hlt : limit < stW base l k := by
        rcases hlate with h | h
        · exact h
        · omega
      show (if limit < stW base l k then _ else _) = _
      rw [if_pos hlt]
  · obtain ⟨_, e2⟩ := List.append_inj' (t₁ := [x]) e rfl
    injection e2 with e2
    subst e2
    exact absurd hx h1
/-- What the loop over all steps holds; d: the heap's size behind the check. -/
structure SlI (w : World) (d : Nat) (limit : Int) (pre : List Stp) (W : World) : Prop where
  fit : stFit limit pre
  lim : W.heap[w.heap.size]? = some (.cells #[.int .i64 limit] 2 (0, 0))
  r1 : W.heap[w.heap.size + 1]? = some (.cells #[.slice none 0 0] 66 (0, 0))
  r2 : W.heap[w.heap.size + 1 + 1]? = some (.cells #[.int .i64 0] 31 (0, 0))
  row : ∃ A c, W.heap[d]? = some (.cells #[.slice A pre.length c] 66 (0, 0)) ∧ W.ownsRow (d + 3) 2 1 (.slice A pre.length c) pre.length ((pre.map (·.t)).map (.int .i64))
  low : Below w.heap.size w W
  size : d + 3 ≤ W.heap.size
def SlX (w : World) (limit : Int) (c : Code) (pre : List Stp) (W : World) : Prop :=
  c = .ret ∧ ∃ (pre' : List Stp) (x : Stp) (y : Int), pre = pre' ++ [x] ∧ stFit limit pre' ∧ ((x.y ≠ 0 ∧ y = x.y) ∨ (x.y = 0 ∧ (limit < x.t ∨ pre'.length = 4096) ∧ y = 11)) ∧
    W.heap[w.heap.size + 1]? = some (.cells #[.slice none 0 0] 66 (0, 0)) ∧ W.heap[w.heap.size + 1 + 1]? = some (.cells #[.int .i64 y] 31 (0, 0)) ∧ Below w.heap.size w W
theorem slI_own {w : World} {d B : Nat} {limit : Int} (hB : d < B) (hs : w.heap.size + 3 ≤ d) : OwnFrom B (SlI w d limit) := fun pre W W' row h hg hr => by
  obtain ⟨A, c, h1, h2⟩ := h.row
  exact ⟨h.fit, ownFrom_box (β := Unit) (by omega) () W W' row h.lim hg hr, ownFrom_box (β := Unit) (by omega) () W W' row h.r1 hg hr, ownFrom_box (β := Unit) (by omega) () W W' row h.r2 hg hr,
    ⟨A, c, ownFrom_box (β := Unit) (by omega) () W W' row h1 hg hr, ownFrom_row (β := Unit) (fun _ => _) (fun _ => _) (fun _ => _) () W W' row h2 hg hr⟩, ownFrom_below (β := Unit) (by omega) (Nat.le_refl _) () W W' row h.low hg hr, Nat.le_trans h.size hg.size⟩
theorem slX_own {w : World} {B : Nat} {limit : Int} (hB : w.heap.size + 3 ≤ B) (c : Code) : OwnFrom B (SlX w limit c) := fun pre W W' row hs hg hr => by
  obtain ⟨h1, p, x, y, h2, h3, h4, h5, h6, h7⟩ := hs
  exact ⟨h1, p, x, y, h2, h3, h4, ownFrom_box (β := Unit) (by omega) () W W' row h5 hg hr, ownFrom_box (β := Unit) (by omega) () W W' row h6 hg hr, ownFrom_below (β := Unit) (by omega) (Nat.le_refl _) () W W' row h7 hg hr⟩
set_option maxHeartbeats 4000000 in
set_option maxRecDepth 100000 in
theorem steps_walk (base : Int) (l : List Ld) (limit : Int) (hl : l.length ≤ 1048576) (A : Option Addr) (c : Nat) (w : World) (hr : Rd w A (l.flatMap ldc)) :
    Calls Tryz.prog 119 #[.int .i64 base, .slice A l.length c, .int .i64 limit] w (RetSt (stepsY base l limit) w) := by
  have Hr := Lib.hid hr
  have f1 := Lib.hid (fun w hr => lcheck_any l hl A c w hr)
  have f2 := Lib.hid (fun w => steps_any base A l.length c w)
  have Hf : Hid (ldsWhy l ≠ 0 → stepsY base l limit = (0, 2)) := Lib.hid (fun h => by unfold stepsY; rw [if_pos h])
  have Hg : Hid (ldsWhy l = 0 → ¬ ((1 ≤ base ∧ base ≤ 4503599627370496) ∧ 0 ≤ limit ∧ limit ≤ 4503599627370496) → stepsY base l limit = (0, 1)) := Lib.hid (fun h h2 => by
    have h3 : inB base 1 4503599627370496 = false ∨ inB limit 0 4503599627370496 = false := by
      unfold inB
      by_cases hb : 1 ≤ base ∧ base ≤ 4503599627370496
      · exact .inr (decide_eq_false fun h => h2 ⟨hb, h⟩)
      · exact .inl (decide_eq_false hb)
    unfold stepsY; rw [if_neg (by simp [h]), if_pos h3])
  have Hk : Hid (ldsWhy l = 0 → ((1 ≤ base ∧ base ≤ 4503599627370496) ∧ 0 ≤ limit ∧ limit ≤ 4503599627370496) → stepsY base l limit = stGo base l limit 4096 base) := Lib.hid (fun h h2 => by
    have h3 : ¬ (inB base 1 4503599627370496 = false ∨ inB limit 0 4503599627370496 = false) := by
      unfold inB
      rw [decide_eq_true h2.1, decide_eq_true h2.2]; simp
    unfold stepsY; rw [if_neg (by simp [h]), if_neg h3])
  have H02 := lds_02 l
  clear hr
  generalize stepsY base l limit = R at *
  generalize ldsWhy l = y at *
  refine calls_marks Tryz.func119 rfl ?_
  simp only [Tryz.ntmps119, List.size_toArray, List.length_cons, List.length_nil, Nat.reduceAdd, Nat.reduceSub, Array.replicate_succ, Array.replicate_zero, List.push_toArray, List.append_toArray, List.nil_append, List.cons_append]
  go_wp2_with fail
  refine (f1.out _ (((Hr.out.alloc _).alloc _).alloc _)).mono ?_
  rintro e w2 ⟨rfl, hb⟩
  have HLm : Hid (w2.heap[w.heap.size]? = some (.cells #[.int .i64 limit] 2 (0, 0))) := Lib.hid (box_keep (box_alloc (box_alloc (heap_alloc_new w _) _) _) hb)
  have HR1 : Hid (w2.heap[w.heap.size + 1]? = some (.cells #[.slice none 0 0] 66 (0, 0))) := Lib.hid (box_keep (box_alloc (heap_new_at _ (by simp)) _) hb)
  have HR2 : Hid (w2.heap[w.heap.size + 1 + 1]? = some (.cells #[.int .i64 0] 31 (0, 0))) := Lib.hid (box_keep (heap_new_at _ (by simp)) hb)
  have HB := Lib.hid (((((Below.refl w.heap.size w).alloc (Nat.le_refl _) _).alloc (by simp) _).alloc (by simp; omega) _).trans (hb.mono (by simp; omega)))
  have s2 : w.heap.size + 3 ≤ w2.heap.size := by have := hb.size; simp at this; omega
  clear hb f1
  obtain ⟨lx, ly⟩ := box_rules HLm.out
  obtain ⟨kx, ky⟩ := box_rules HR1.out
  obtain ⟨mx', my'⟩ := box_rules HR2.out
  rcases H02 with rfl | rfl
  · clear Hf
    by_cases hin : (1 ≤ base ∧ base ≤ 4503599627370496) ∧ 0 ≤ limit ∧ limit ≤ 4503599627370496
    · have hR := Hk.out (by first | rfl | trivial) hin
      subst hR
      have hib : inB base 1 4503599627370496 = true := inB_true.2 hin.1
      have IT := Lib.hid (fun b1 b2 n1 out w0 w h0 k1 k2 q1 q2 hb1 hb2 hr => stp_iter base l hib A c b1 b2 n1 out w0 w hl h0 k1 k2 q1 q2 hb1 hb2 hr)
      obtain ⟨⟨b1, b2⟩, t1, t2⟩ := hin
      have d1 : decide (base < 1) = false := by simp; omega
      have d2 : decide (4503599627370496 < base) = false := by simp; omega
      have d3 : decide (limit < 0) = false := by simp; omega
      have d4 : decide (4503599627370496 < limit) = false := by simp; omega
      clear Hg Hk hib
      go_wp2_with (go_at_call 136; refine (f2.out _).mono ?_; rintro e w' ⟨rfl, rfl⟩)
      refine name_world fun W6 hW6 => ?_
      have hs6 : w2.heap.size + 3 ≤ W6.heap.size := by rw [hW6]; simp
      have hB2 : Below w2.heap.size w2 W6 := by rw [hW6]; exact (((Below.refl _ _).alloc (Nat.le_refl _) _).alloc (by simp) _).alloc (by simp; omega) _
      have hB6 : Below w.heap.size w W6 := HB.out.trans (hB2.mono HB.out.size)
      have x0 : W6.heap[w2.heap.size]? = some (.cells #[.slice none 0 0] 66 (0, 0)) := by rw [hW6]; exact box_alloc (box_alloc (heap_alloc_new _ _) _) _
      have x1 : W6.heap[w2.heap.size + 1]? = some (.cells #[.int .i64 base] 2 (0, 0)) := by rw [hW6]; exact box_alloc (heap_new_at _ (by simp)) _
      have x2 : W6.heap[w2.heap.size + 1 + 1]? = some (.cells #[.slice A l.length c] 76 (0, 0)) := by rw [hW6]; exact heap_new_at _ (by simp)
      have hit := IT.out (w2.heap.size + 1) (w2.heap.size + 1 + 1) (w2.heap.size + 3) [w.heap.size + 1, w.heap.size + 1 + 1, w2.heap.size] w W6 hB6 (by omega) (by omega) (by simp; omega) (by simp; omega) x1 x2 Hr.out
      have hI0 : SlI w w2.heap.size limit [] W6 := ⟨⟨fun _ h => (by cases h), Nat.zero_le _⟩, box_keep HLm.out hB2, box_keep HR1.out hB2, box_keep HR2.out hB2, ⟨none, 0, x0, own_nilK _ _ _ _⟩, hB6, hs6⟩
      clear hW6 x0 x1 x2 IT hB2 lx ly kx ky mx' my'
      refine (wpIn_wide (n := 9)).1 (wpIn_rangeFunc_ownH (F := Fence.wide) (n := 9) rfl (by omega) rfl trivial (enters_of Tryz.func149 (by kernel_rfl) rfl) hit (fun h k => h.trans k) (KeepsLow.put (by omega)) (Below.refl _ _) (fun _ => rfl)
        (SlI w w2.heap.size limit) (SlX w limit) (slI_own (by omega) s2) (slX_own (by omega)) hI0
        (fun x a' W => a' = { tmps := #[.int .i64 base, .slice A l.length c, .int .i64 limit, undef, undef, .pointer (some ⟨w.heap.size, 0, none⟩), .pointer (some ⟨w.heap.size + 1, 0, none⟩), .pointer (some ⟨w.heap.size + 1 + 1, 0, none⟩), .int .i64 0, .pointer (some ⟨w2.heap.size, 0, none⟩), .int .i64 x.t, .int .i64 x.y, .slice A l.length c, .int .i64 0, .int .i64 0, .bool false, undef, .int .i64 base, .bool false, .bool false, .int .i64 base, .bool false, .bool false, .bool false, .int .i64 limit, .bool false, .bool false, .bool false, .int .i64 limit, .bool false, .bool false, .int .i64 base, .slice A l.length c, .func (.func 149) #[] #[.pointer (some ⟨w2.heap.size + 1, 0, none⟩), .pointer (some ⟨w2.heap.size + 1 + 1, 0, none⟩)], .int .i64 x.t, .int .i64 x.y, undef, undef, undef, undef, undef, undef, undef, undef, undef, undef, undef, undef, undef, undef, undef, undef, undef, undef], defers := [] })
        (fun x a' s W W' row hs hg hr => hs)
        ?assign ?body ?done ?stop)
      case assign =>
        rintro l' pre ⟨tt, yy⟩ W K hI hK
        dsimp only [stpv]
        gi_wp2
        exact hK _ _ (KeepsFrom.refl _ _) (KeepsLow.refl _) hI rfl
      case body =>
        rintro l' pre ⟨tt, yy⟩ a' W hl' _ hI rfl hlen
        clear hit hI0 hB6
        obtain ⟨A1, c1, hbox, hrow⟩ := hI.row
        obtain ⟨sx, sy⟩ := box_rules hbox
        obtain ⟨r1x, r1y⟩ := box_rules hI.r1
        obtain ⟨r2x, r2y⟩ := box_rules hI.r2
        obtain ⟨lx, ly⟩ := box_rules hI.lim
        have HI := Lib.hid hI; have HBx := Lib.hid hbox; have HRow := Lib.hid hrow
        have hpl := hI.fit.2
        clear hI hbox hrow hlen
        dsimp only
        by_cases hy0 : yy = 0
        · subst hy0
          by_cases hlate : limit < tt
          · gi_wp2
            refine ⟨?_, rfl, pre, _, 11, rfl, HI.out.fit, (.inr ⟨rfl, .inl hlate, rfl⟩), ?_, ?_, ?_⟩
            · exact (ko_set (ko_set (KeepsOthers.refl W) _ _) _ _).from _
            · exact box_far (box_set (t := 66) (cs := #[.slice none 0 0]) (i := 0) HI.out.r1 _) (p := ⟨w.heap.size + 1 + 1, 0, none⟩) (by show _ ≠ w.heap.size + 1 + 1; omega) _
            · exact box_set (t := 31) (cs := #[.int .i64 0]) (i := 0) (box_far HI.out.r2 (p := ⟨w.heap.size + 1, 0, none⟩) (by show _ ≠ w.heap.size + 1; omega) _) _
            · exact ((HI.out.low.setCell (p := ⟨w.heap.size + 1, 0, none⟩) (by show _ ≤ w.heap.size + 1; omega) _).setCell (p := ⟨w.heap.size + 1 + 1, 0, none⟩) (by show _ ≤ w.heap.size + 1 + 1; omega) _)
          · by_cases hfull : pre.length = 4096
            · have hf2 : ((pre.length : Int) == 4096) = true := by rw [hfull]; rfl
              gi_wp2
              refine ⟨?_, rfl, pre, _, 11, rfl, HI.out.fit, (.inr ⟨rfl, .inr hfull, rfl⟩), ?_, ?_, ?_⟩
              · exact (ko_set (ko_set (KeepsOthers.refl W) _ _) _ _).from _
              · exact box_far (box_set (t := 66) (cs := #[.slice none 0 0]) (i := 0) HI.out.r1 _) (p := ⟨w.heap.size + 1 + 1, 0, none⟩) (by show _ ≠ w.heap.size + 1 + 1; omega) _
              · exact box_set (t := 31) (cs := #[.int .i64 0]) (i := 0) (box_far HI.out.r2 (p := ⟨w.heap.size + 1, 0, none⟩) (by show _ ≠ w.heap.size + 1; omega) _) _
              · exact ((HI.out.low.setCell (p := ⟨w.heap.size + 1, 0, none⟩) (by show _ ≤ w.heap.size + 1; omega) _).setCell (p := ⟨w.heap.size + 1 + 1, 0, none⟩) (by show _ ≤ w.heap.size + 1 + 1; omega) _)
            · have hf2 : ((pre.length : Int) == 4096) = false := by simp; omega
              gi_wp2_with (gi_at_builtin; go_loud (refine wpI_appK rfl _ _ sk_i64 (by decide) rfl (own_allocK HRow.out _) rfl (by omega) (by have := HI.out.size; simp; omega) W.heap.size [.int .i64 tt] rfl rfl ?_ rfl ?_); (intro j u hu; exact new_cell (w := W) hu); intro A4 c4 w4 ho4 hg4; have G4 := Lib.hid (grown_step HRow.out hg4); have HO4 := Lib.hid ho4; have HG4 := Lib.hid hg4; have HBx4 := Lib.hid (G4.out.low HBx.out (by omega)); obtain ⟨sx4, sy4⟩ := box_rules HBx4.out; clear ho4 hg4 sx sy)
              have hsz := HI.out.size
              have hlt2 : ¬ limit < tt := by omega
              refine ⟨?_, ?_, ⟨?_, ?_, ?_, ?_, ⟨A4, c4, ?_, ?_⟩, ?_, ?_⟩⟩
              · exact (ko_set (ko_step HRow.out HG4.out) _ _).from _
              · exact (KeepsLow.step HRow.out HG4.out (by omega) (by omega) (Nat.le_refl _)).set (p := ⟨w2.heap.size, 0, none⟩) (by show _ ≤ w2.heap.size; omega) (.inl (by simp)) _
              · refine ⟨fun x hx => ?_, by rw [List.length_append]; show pre.length + 1 ≤ 4096; omega⟩
                rcases List.mem_append.1 hx with h | h
                · exact HI.out.fit.1 x h
                · obtain rfl := List.mem_singleton.1 h
                  exact ⟨rfl, by show tt ≤ limit; omega⟩
              · exact box_far (G4.out.low HI.out.lim (by omega)) (p := ⟨w2.heap.size, 0, none⟩) (by show _ ≠ w2.heap.size; omega) _
              · exact box_far (G4.out.low HI.out.r1 (by omega)) (p := ⟨w2.heap.size, 0, none⟩) (by show _ ≠ w2.heap.size; omega) _
              · exact box_far (G4.out.low HI.out.r2 (by omega)) (p := ⟨w2.heap.size, 0, none⟩) (by show _ ≠ w2.heap.size; omega) _
              · rw [List.length_append]
                exact box_set (t := 66) (cs := #[.slice A1 pre.length c1]) (i := 0) HBx4.out _
              · rw [List.length_append, List.map_append, List.map_append]
                exact own_setK HO4.out (own_low HO4.out (by show w2.heap.size < _; omega)) _
              · exact (G4.out.below HI.out.low (by omega) (by omega)).setCell (p := ⟨w2.heap.size, 0, none⟩) (by show _ ≤ w2.heap.size; omega) _
              · have := G4.out.size
                simp only [World.setCell, Array.size_modify]
                omega
        · have hy1 : (yy != 0) = true := by simpa using hy0
          gi_wp2
          refine ⟨?_, rfl, pre, _, yy, rfl, HI.out.fit, (.inl ⟨hy0, rfl⟩), ?_, ?_, ?_⟩
          · exact (ko_set (ko_set (KeepsOthers.refl W) _ _) _ _).from _
          · exact box_far (box_set (t := 66) (cs := #[.slice none 0 0]) (i := 0) HI.out.r1 _) (p := ⟨w.heap.size + 1 + 1, 0, none⟩) (by show _ ≠ w.heap.size + 1 + 1; omega) _
          · exact box_set (t := 31) (cs := #[.int .i64 0]) (i := 0) (box_far HI.out.r2 (p := ⟨w.heap.size + 1, 0, none⟩) (by show _ ≠ w.heap.size + 1; omega) _) _
          · exact ((HI.out.low.setCell (p := ⟨w.heap.size + 1, 0, none⟩) (by show _ ≤ w.heap.size + 1; omega) _).setCell (p := ⟨w.heap.size + 1 + 1, 0, none⟩) (by show _ ≤ w.heap.size + 1 + 1; omega) _)
      case done =>
        intro D' xs W hD hS hI hK
        obtain ⟨k, rfl, hgo⟩ := st_done hS hI.fit
        have HGo := Lib.hid hgo
        obtain ⟨A1, c1, hbox, hrow⟩ := hI.row
        have hlen := hI.fit.2
        have HI := Lib.hid hI; have HBx := Lib.hid hbox; have HRow := Lib.hid hrow
        clear hI hbox hrow hS hgo hit hI0 hB6
        obtain ⟨kx, ky⟩ := box_rules HI.out.r1
        obtain ⟨mx', my'⟩ := box_rules HI.out.r2
        obtain ⟨ux, uy⟩ := box_rules HBx.out
        have hll : (stL base l (k + 1)).length = k + 1 := stL_len _ _ _
        have HLast : Hid (((stL base l (k + 1)).map (·.t)).getD k 0 = stW base l k) := Lib.hid (by
          show ((stL base l k ++ [(⟨stW base l k, 0⟩ : Stp)]).map (·.t)).getD k 0 = _
          rw [List.map_append, List.getD_eq_getElem?_getD, List.getElem?_append_right (by rw [List.length_map, stL_len]; omega), List.length_map, stL_len, Nat.sub_self]
          rfl)
        have HNl := Lib.hid hll
        rw [hll] at hlen
        clear hll
        generalize stL base l (k + 1) = xs at *
        rw [HNl.out] at HBx HRow ux
        dsimp only
        go_wp2
        have h1 : ((W.setCell ⟨w.heap.size + 1, 0, none⟩ (.slice A1 (k + 1) c1)).setCell ⟨w.heap.size + 1 + 1, 0, none⟩ (.int .i64 0)).heap[w.heap.size + 1]? = some (.cells #[.slice A1 (k + 1) c1] 66 (0, 0)) :=
          box_far (box_set (t := 66) (cs := #[.slice none 0 0]) (i := 0) HI.out.r1 _) (p := ⟨w.heap.size + 1 + 1, 0, none⟩) (by show _ ≠ w.heap.size + 1 + 1; omega) _
        have h2 : ((W.setCell ⟨w.heap.size + 1, 0, none⟩ (.slice A1 (k + 1) c1)).setCell ⟨w.heap.size + 1 + 1, 0, none⟩ (.int .i64 0)).heap[w.heap.size + 1 + 1]? = some (.cells #[.int .i64 0] 31 (0, 0)) :=
          box_set (t := 31) (cs := #[.int .i64 0]) (i := 0) (box_far HI.out.r2 (p := ⟨w.heap.size + 1, 0, none⟩) (by show _ ≠ w.heap.size + 1; omega) _) _
        have h3 : ((W.setCell ⟨w.heap.size + 1, 0, none⟩ (.slice A1 (k + 1) c1)).setCell ⟨w.heap.size + 1 + 1, 0, none⟩ (.int .i64 0)).heap[D']? = some (.deferred (some [])) :=
          box_far (box_far hK (p := ⟨w.heap.size + 1, 0, none⟩) (by show _ ≠ w.heap.size + 1; omega) _) (p := ⟨w.heap.size + 1 + 1, 0, none⟩) (by show _ ≠ w.heap.size + 1 + 1; omega) _
        have h4 : Below w.heap.size w ((W.setCell ⟨w.heap.size + 1, 0, none⟩ (.slice A1 (k + 1) c1)).setCell ⟨w.heap.size + 1 + 1, 0, none⟩ (.int .i64 0)) :=
          ((HI.out.low.setCell (p := ⟨w.heap.size + 1, 0, none⟩) (by show _ ≤ w.heap.size + 1; omega) _).setCell (p := ⟨w.heap.size + 1 + 1, 0, none⟩) (by show _ ≤ w.heap.size + 1 + 1; omega) _)
        have h5 : ((W.setCell ⟨w.heap.size + 1, 0, none⟩ (.slice A1 (k + 1) c1)).setCell ⟨w.heap.size + 1 + 1, 0, none⟩ (.int .i64 0)).ownsRow (w2.heap.size + 3) 2 1 (.slice A1 (k + 1) c1) (k + 1) ((xs.map (·.t)).map (.int .i64)) :=
          own_setK (own_setK HRow.out (own_low HRow.out (by show w.heap.size + 1 < _; omega)) _) (own_low HRow.out (by show w.heap.size + 1 + 1 < _; omega)) _
        obtain ⟨p1, _⟩ := box_rules ((World.putObj_heap_other (o := .deferred none) (by omega : w.heap.size + 1 ≠ D')).trans h1)
        obtain ⟨p2, _⟩ := box_rules ((World.putObj_heap_other (o := .deferred none) (by omega : w.heap.size + 1 + 1 ≠ D')).trans h2)
        refine post_mark (v := .tuple #[.slice A1 (k + 1) c1, .int .i64 0]) h3 (by simp [results, Tryz.f119, go_sem, p1, p2]) ?_
        have hml : (xs.map (·.t)).length = k + 1 := by rw [List.length_map, HNl.out]
        refine ⟨A1, c1, xs.map (·.t), by rw [hml, HGo.out], fun _ => ⟨by omega, by rw [hml, HGo.out]; exact HLast.out⟩, by omega, ?_, h4.trans ((Below.refl _ _).grown (grownBy_putObj' _ D' _) h4.size (fun k e => by cases e; omega))⟩
        exact own_rdK (own_keptK h5 fun g hg => by
          obtain ⟨_, _, cur, hcur⟩ := own_blockK h5 hg
          exact World.putObj_heap_other (fun e => by rw [e, h3] at hcur; cases hcur))
      case stop =>
        rintro D' c' pre W hD hS ⟨rfl, pre', x, yv, rfl, g1, g2, g3, g4, g5⟩ hK
        have hgo : stGo base l limit 4096 base = (0, yv) ∧ yv ≠ 0 := by
          rcases g2 with ⟨h1, rfl⟩ | ⟨h1, h2, rfl⟩
          · exact ⟨st_err hS g1 h1, h1⟩
          · exact ⟨st_late hS g1 h1 h2, by decide⟩
        rw [hgo.1]
        have hyv := hgo.2
        clear hit hI0 hB6 hS hgo g2 g1
        dsimp only
        refine (wpIn_wide (n := 9)).2 ?_
        go_wp2
        obtain ⟨p1, _⟩ := box_rules ((World.putObj_heap_other (o := .deferred none) (by omega : w.heap.size + 1 ≠ D')).trans g3)
        obtain ⟨p2, _⟩ := box_rules ((World.putObj_heap_other (o := .deferred none) (by omega : w.heap.size + 1 + 1 ≠ D')).trans g4)
        refine post_mark (v := .tuple #[.slice none 0 0, .int .i64 yv]) hK (by simp [results, Tryz.f119, go_sem, p1, p2]) ?_
        exact retSt_no rfl hyv (g5.trans ((Below.refl _ _).grown (grownBy_putObj' _ D' _) g5.size (fun k e => by cases e; omega)))
    · obtain rfl := Hg.out (by first | rfl | trivial) hin
      clear Hg Hk
      by_cases b1 : base < 1
      · go_wp2
        have h1 : ((w2.setCell ⟨w.heap.size + 1, 0, none⟩ (.slice none 0 0)).setCell ⟨w.heap.size + 1 + 1, 0, none⟩ (.int .i64 1)).heap[w.heap.size + 1]? = some (.cells #[.slice none 0 0] 66 (0, 0)) :=
          box_far (box_set (t := 66) (cs := #[.slice none 0 0]) (i := 0) HR1.out _) (p := ⟨w.heap.size + 1 + 1, 0, none⟩) (by show _ ≠ w.heap.size + 1 + 1; omega) _
        have h2 : ((w2.setCell ⟨w.heap.size + 1, 0, none⟩ (.slice none 0 0)).setCell ⟨w.heap.size + 1 + 1, 0, none⟩ (.int .i64 1)).heap[w.heap.size + 1 + 1]? = some (.cells #[.int .i64 1] 31 (0, 0)) :=
          box_set (t := 31) (cs := #[.int .i64 0]) (i := 0) (box_far HR2.out (p := ⟨w.heap.size + 1, 0, none⟩) (by show _ ≠ w.heap.size + 1; omega) _) _
        have h4 : Below w.heap.size w ((w2.setCell ⟨w.heap.size + 1, 0, none⟩ (.slice none 0 0)).setCell ⟨w.heap.size + 1 + 1, 0, none⟩ (.int .i64 1)) :=
          ((HB.out.setCell (p := ⟨w.heap.size + 1, 0, none⟩) (by show _ ≤ w.heap.size + 1; omega) _).setCell (p := ⟨w.heap.size + 1 + 1, 0, none⟩) (by show _ ≤ w.heap.size + 1 + 1; omega) _)
        obtain ⟨p1, _⟩ := box_rules h1
        obtain ⟨p2, _⟩ := box_rules h2
        refine post_plain (v := .tuple #[.slice none 0 0, .int .i64 1]) (by simp [results, Tryz.f119, go_sem, p1, p2]) ?_
        exact retSt_no rfl (by decide) h4
      by_cases b2 : 4503599627370496 < base
      · go_wp2
        have h1 : ((w2.setCell ⟨w.heap.size + 1, 0, none⟩ (.slice none 0 0)).setCell ⟨w.heap.size + 1 + 1, 0, none⟩ (.int .i64 1)).heap[w.heap.size + 1]? = some (.cells #[.slice none 0 0] 66 (0, 0)) :=
          box_far (box_set (t := 66) (cs := #[.slice none 0 0]) (i := 0) HR1.out _) (p := ⟨w.heap.size + 1 + 1, 0, none⟩) (by show _ ≠ w.heap.size + 1 + 1; omega) _
        have h2 : ((w2.setCell ⟨w.heap.size + 1, 0, none⟩ (.slice none 0 0)).setCell ⟨w.heap.size + 1 + 1, 0, none⟩ (.int .i64 1)).heap[w.heap.size + 1 + 1]? = some (.cells #[.int .i64 1] 31 (0, 0)) :=
          box_set (t := 31) (cs := #[.int .i64 0]) (i := 0) (box_far HR2.out (p := ⟨w.heap.size + 1, 0, none⟩) (by show _ ≠ w.heap.size + 1; omega) _) _
        have h4 : Below w.heap.size w ((w2.setCell ⟨w.heap.size + 1, 0, none⟩ (.slice none 0 0)).setCell ⟨w.heap.size + 1 + 1, 0, none⟩ (.int .i64 1)) :=
          ((HB.out.setCell (p := ⟨w.heap.size + 1, 0, none⟩) (by show _ ≤ w.heap.size + 1; omega) _).setCell (p := ⟨w.heap.size + 1 + 1, 0, none⟩) (by show _ ≤ w.heap.size + 1 + 1; omega) _)
        obtain ⟨p1, _⟩ := box_rules h1
        obtain ⟨p2, _⟩ := box_rules h2
        refine post_plain (v := .tuple #[.slice none 0 0, .int .i64 1]) (by simp [results, Tryz.f119, go_sem, p1, p2]) ?_
        exact retSt_no rfl (by decide) h4
      by_cases t1 : limit < 0
      · go_wp2
        have h1 : ((w2.setCell ⟨w.heap.size + 1, 0, none⟩ (.slice none 0 0)).setCell ⟨w.heap.size + 1 + 1, 0, none⟩ (.int .i64 1)).heap[w.heap.size + 1]? = some (.cells #[.slice none 0 0] 66 (0, 0)) :=
          box_far (box_set (t := 66) (cs := #[.slice none 0 0]) (i := 0) HR1.out _) (p := ⟨w.heap.size + 1 + 1, 0, none⟩) (by show _ ≠ w.heap.size + 1 + 1; omega) _
        have h2 : ((w2.setCell ⟨w.heap.size + 1, 0, none⟩ (.slice none 0 0)).setCell ⟨w.heap.size + 1 + 1, 0, none⟩ (.int .i64 1)).heap[w.heap.size + 1 + 1]? = some (.cells #[.int .i64 1] 31 (0, 0)) :=
          box_set (t := 31) (cs := #[.int .i64 0]) (i := 0) (box_far HR2.out (p := ⟨w.heap.size + 1, 0, none⟩) (by show _ ≠ w.heap.size + 1; omega) _) _
        have h4 : Below w.heap.size w ((w2.setCell ⟨w.heap.size + 1, 0, none⟩ (.slice none 0 0)).setCell ⟨w.heap.size + 1 + 1, 0, none⟩ (.int .i64 1)) :=
          ((HB.out.setCell (p := ⟨w.heap.size + 1, 0, none⟩) (by show _ ≤ w.heap.size + 1; omega) _).setCell (p := ⟨w.heap.size + 1 + 1, 0, none⟩) (by show _ ≤ w.heap.size + 1 + 1; omega) _)
        obtain ⟨p1, _⟩ := box_rules h1
        obtain ⟨p2, _⟩ := box_rules h2
        refine post_plain (v := .tuple #[.slice none 0 0, .int .i64 1]) (by simp [results, Tryz.f119, go_sem, p1, p2]) ?_
        exact retSt_no rfl (by decide) h4
      · have t2 : 4503599627370496 < limit := by omega
        go_wp2
        have h1 : ((w2.setCell ⟨w.heap.size + 1, 0, none⟩ (.slice none 0 0)).setCell ⟨w.heap.size + 1 + 1, 0, none⟩ (.int .i64 1)).heap[w.heap.size + 1]? = some (.cells #[.slice none 0 0] 66 (0, 0)) :=
          box_far (box_set (t := 66) (cs := #[.slice none 0 0]) (i := 0) HR1.out _) (p := ⟨w.heap.size + 1 + 1, 0, none⟩) (by show _ ≠ w.heap.size + 1 + 1; omega) _
        have h2 : ((w2.setCell ⟨w.heap.size + 1, 0, none⟩ (.slice none 0 0)).setCell ⟨w.heap.size + 1 + 1, 0, none⟩ (.int .i64 1)).heap[w.heap.size + 1 + 1]? = some (.cells #[.int .i64 1] 31 (0, 0)) :=
          box_set (t := 31) (cs := #[.int .i64 0]) (i := 0) (box_far HR2.out (p := ⟨w.heap.size + 1, 0, none⟩) (by show _ ≠ w.heap.size + 1; omega) _) _
        have h4 : Below w.heap.size w ((w2.setCell ⟨w.heap.size + 1, 0, none⟩ (.slice none 0 0)).setCell ⟨w.heap.size + 1 + 1, 0, none⟩ (.int .i64 1)) :=
          ((HB.out.setCell (p := ⟨w.heap.size + 1, 0, none⟩) (by show _ ≤ w.heap.size + 1; omega) _).setCell (p := ⟨w.heap.size + 1 + 1, 0, none⟩) (by show _ ≤ w.heap.size + 1 + 1; omega) _)
        obtain ⟨p1, _⟩ := box_rules h1
        obtain ⟨p2, _⟩ := box_rules h2
        refine post_plain (v := .tuple #[.slice none 0 0, .int .i64 1]) (by simp [results, Tryz.f119, go_sem, p1, p2]) ?_
        exact retSt_no rfl (by decide) h4
  · obtain rfl := Hf.out (by first | decide | trivial)
    clear Hg Hk Hf
    go_wp2
    have h1 : ((w2.setCell ⟨w.heap.size + 1, 0, none⟩ (.slice none 0 0)).setCell ⟨w.heap.size + 1 + 1, 0, none⟩ (.int .i64 2)).heap[w.heap.size + 1]? = some (.cells #[.slice none 0 0] 66 (0, 0)) :=
      box_far (box_set (t := 66) (cs := #[.slice none 0 0]) (i := 0) HR1.out _) (p := ⟨w.heap.size + 1 + 1, 0, none⟩) (by show _ ≠ w.heap.size + 1 + 1; omega) _
    have h2 : ((w2.setCell ⟨w.heap.size + 1, 0, none⟩ (.slice none 0 0)).setCell ⟨w.heap.size + 1 + 1, 0, none⟩ (.int .i64 2)).heap[w.heap.size + 1 + 1]? = some (.cells #[.int .i64 2] 31 (0, 0)) :=
      box_set (t := 31) (cs := #[.int .i64 0]) (i := 0) (box_far HR2.out (p := ⟨w.heap.size + 1, 0, none⟩) (by show _ ≠ w.heap.size + 1; omega) _) _
    have h4 : Below w.heap.size w ((w2.setCell ⟨w.heap.size + 1, 0, none⟩ (.slice none 0 0)).setCell ⟨w.heap.size + 1 + 1, 0, none⟩ (.int .i64 2)) :=
      ((HB.out.setCell (p := ⟨w.heap.size + 1, 0, none⟩) (by show _ ≤ w.heap.size + 1; omega) _).setCell (p := ⟨w.heap.size + 1 + 1, 0, none⟩) (by show _ ≤ w.heap.size + 1 + 1; omega) _)
    obtain ⟨p1, _⟩ := box_rules h1
    obtain ⟨p2, _⟩ := box_rules h2
    refine post_plain (v := .tuple #[.slice none 0 0, .int .i64 2]) (by simp [results, Tryz.f119, go_sem, p1, p2]) ?_
    exact retSt_no rfl (by decide) h4
end Go.Proofs.YtgampofpabllbaaGreat

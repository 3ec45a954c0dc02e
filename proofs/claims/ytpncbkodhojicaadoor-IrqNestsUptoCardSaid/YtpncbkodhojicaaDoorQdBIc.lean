/- Package irq: the walk of Next. Conditions: lines' memory, the de Bruijn table. -/
import Derived.Test.YtpncbkodhojicaaDoorQdAIc
namespace Go.Proofs.YtpncbkodhojicaaDoor
open Go.RowKit Go.Shelf
variable {Bs : Nat → Prop}
attribute [local go_sem] Oper.semAt_some
def nextF (s : Qs) (r : Int × Bool) (i : Nat) : Int × Bool := if (s.ln i).L ≠ [] ∧ (r.2 = false ∨ (s.ln i).L.getD 0 0 + (s.ln i).how.window < r.1) then ((s.ln i).L.getD 0 0 + (s.ln i).how.window, true) else r
theorem mB_any {s : Qs} (h : s.ls.length ≤ 64) (i : Nat) : (mB s).testBit i = (s.ln i).masked := by
  unfold mB
  rw [mk_bit]
  by_cases hi : i < s.ls.length
  · rw [decide_eq_true (by omega), decide_eq_true hi]; rfl
  · rw [decide_eq_false hi, ln_out hi]; simp [lq0]
theorem nextM_fold {s : Qs} (h : s.ls.length ≤ 64) (k : Nat) : nextM s k = (bitsTo (mB s) k).foldl (nextF s) (0, false) := by
  induction k with
  | zero => rfl
  | succ k ih =>
    rw [nextM, bitsTo_succ, mB_any h, List.foldl_append, ← ih]
    cases (s.ln k).masked with
    | false =>
      rw [if_neg (fun e => by cases e.1)]; rfl
    | true =>
      show _ = nextF s (nextM s k) k
      unfold nextF
      by_cases hc : (s.ln k).L ≠ [] ∧ ((nextM s k).2 = false ∨ (s.ln k).L.getD 0 0 + (s.ln k).how.window < (nextM s k).1)
      · rw [if_pos hc, if_pos ⟨rfl, hc⟩]
      · rw [if_neg hc, if_neg (fun e => hc e.2)]
theorem nextM_all {s : Qs} (h : s.ls.length ≤ 64) : nextM s s.ls.length = (bitsOf (mB s)).foldl (nextF s) (0, false) := by
  rw [nextM_fold h]
  unfold bitsOf
  rw [bits_stop (n := s.ls.length) (fun i h1 _ => by rw [mB_any h, ln_out (by omega)]; rfl) h]
/-- Next of a line's mask. -/
def nxtL (x : Lq) : Int := if x.L = [] then 0 else x.L.getD 0 0 + x.how.window
theorem mnextl_any {w : World} {last : Int} {x : Lq} (h : MkR w last x) :
    Calls Tryd.prog 34 #[.pointer (some ⟨x.mb, 0, none⟩)] w fun e w' => e = .returned (.tuple #[.int .i64 (nxtL x), .bool (decide (x.L ≠ []))]) ∧ ∃ k, w.drewN k = w' := by
  obtain ⟨many, ml, fi, rf, ring, _, _, hm⟩ := h
  unfold nxtL
  cases hL : x.L with
  | nil =>
    rw [hL] at hm
    exact mnext_nil _ _ _ _ _ _ _ _ w hm
  | cons t L =>
    rw [hL] at hm
    exact mnext_cons _ _ _ _ _ _ _ _ _ _ w hm
theorem nextF_eq (s : Qs) (r : Int × Bool) (i : Nat) : nextF s r i = if (decide ((s.ln i).L ≠ []) && (!r.2 || decide (nxtL (s.ln i) < r.1))) = true then (nxtL (s.ln i), true) else r := by
  unfold nextF nxtL
  by_cases hL : (s.ln i).L = []
  · rw [if_neg (fun e => e.1 hL), if_neg (by simp [hL])]
  · rw [if_neg hL]
    by_cases hc : (s.ln i).L ≠ [] ∧ (r.2 = false ∨ (s.ln i).L.getD 0 0 + (s.ln i).how.window < r.1)
    · rw [if_pos hc, if_pos (by simp only [Bool.and_eq_true, decide_eq_true_eq, Bool.or_eq_true, Bool.not_eq_true']; exact hc)]
    · rw [if_neg hc, if_neg (by simp only [Bool.and_eq_true, decide_eq_true_eq, Bool.or_eq_true, Bool.not_eq_true']; exact hc)]
def RetNx (s : Qs) (w : World) (e : Ending) (w' : World) : Prop := e = .returned (.tuple #[.int .i64 (nextM s s.ls.length).1, .bool (nextM s s.ls.length).2]) ∧ Below w.heap.size w w'
set_option maxHeartbeats 4000000 in
set_option maxRecDepth 100000 in
theorem inext_any (f : IqF) (s : Qs) (n : Nat) (w : World) (h : IqM Bs w f s) (hI : QI n s) (hT : Tab w) :
    Calls Tryd.prog 11 #[.pointer (some ⟨f.p, 0, none⟩)] w (RetNx s w) := by
  obtain ⟨pA, pc, tA, tc, hR⟩ := h
  have HR := Lib.hid (fun W (hb : Below w.heap.size w W) => hR.below hb)
  have hpl := box_lt hR.box
  have hmb : mB s < 18446744073709551616 := mk_lt _
  have HT := Lib.hid hT; clear hT
  have HI := Lib.hid hI
  have hl64 := hI.len
  have HN := Lib.hid (nextM_all hl64)
  obtain ⟨bm, hbm⟩ : ∃ bm, mB s = bm := ⟨_, rfl⟩
  have HBM := Lib.hid hbm
  have HMb : Hid (∀ i, bm.testBit i = (s.ln i).masked) := Lib.hid (fun i => by rw [← hbm]; exact mB_any hl64 i)
  have hbx : w.heap[f.p]? = _ := hR.box
  rw [hbm] at hbx
  have HBX := Lib.hid hbx
  rw [hbm] at hmb HN
  clear hR hI hbm hbx
  refine calls_marks Tryd.func11 rfl ?_
  simp only [Tryd.ntmps11, List.size_toArray, List.length_cons, List.length_nil, Nat.reduceAdd, Nat.reduceSub, Array.replicate_succ, Array.replicate_zero, List.push_toArray, List.append_toArray, List.nil_append, List.cons_append]
  obtain ⟨x, y⟩ := box_rules HBX.out
  have hp1 : f.p < w.heap.size + 1 := by omega
  have hp2 : f.p < w.heap.size + 1 + 1 := by omega
  go_wp2_with (go_at_call 33; refine (each_any _ _).mono ?_; rintro e w' ⟨rfl, rfl⟩)
  refine name_world fun W6 hW6 => ?_
  have hz6 : W6.heap.size = w.heap.size + 4 := by rw [hW6]; simp
  have hB6 : Below w.heap.size w W6 := by rw [hW6]; exact ((((Below.refl _ _).alloc (Nat.le_refl _) _).alloc (by simp) _).alloc (by simp; omega) _).alloc (by simp; omega) _
  have e0 : W6.heap[w.heap.size]? = some (.cells #[.pointer (some ⟨f.p, 0, none⟩)] 25 (0, 0)) := by rw [hW6]; exact box_alloc (box_alloc (box_alloc (heap_alloc_new w _) _) _) _
  have e1 : W6.heap[w.heap.size + 1]? = some (.cells #[.int .i64 0] 2 (0, 0)) := by rw [hW6]; exact box_alloc (box_alloc (heap_new_at _ (by simp)) _) _
  have e2 : W6.heap[w.heap.size + 1 + 1]? = some (.cells #[.bool false] 4 (0, 0)) := by rw [hW6]; exact box_alloc (heap_new_at _ (by simp)) _
  have e3 : W6.heap[w.heap.size + 3]? = some (.cells #[.int .u64 bm] 66 (0, 0)) := by rw [hW6]; exact heap_new_at _ (by simp)
  clear hW6 x y hp1 hp2
  have hit : Iter Tryd.prog 54 #[.pointer (some ⟨w.heap.size + 3, 0, none⟩)] (fun i : Bit bm => #[.int .i64 (i.1 : Nat)]) w.heap.size (fun xs => bv xs = bitsOf bm) (fun pre => bv pre <+: bitsOf bm) 64 W6 :=
    each_iter bm (w.heap.size + 3) w.heap.size W6 hmb (HT.out.below hB6 HT.out.lt) HT.out.lt hB6.size (by rw [(box_rules e3).1]; rfl)
  have hI0 : Held [(w.heap.size, [.pointer (some ⟨f.p, 0, none⟩)]), (w.heap.size + 1, [.int .i64 0]), (w.heap.size + 1 + 1, [.bool false])] W6 :=
    Held.one (by rw [(box_rules e0).1]; rfl) ((box_rules e0).2 0) (Held.one (by rw [(box_rules e1).1]; rfl) ((box_rules e1).2 0) (Held.one (by rw [(box_rules e2).1]; rfl) ((box_rules e2).2 0) (Held.nil _)))
  clear e0 e1 e2 e3
  refine wp_range (w0 := w) (n₀ := w.heap.size) rfl (enters_of Tryd.func54 (by kernel_rfl) rfl) hit (fun _ => rfl) (Nat.le_refl _) hB6
    (fun pre (_ : Unit) W => Held [(w.heap.size, [.pointer (some ⟨f.p, 0, none⟩)]), (w.heap.size + 1, [.int .i64 ((bv pre).foldl (nextF s) (0, false)).1]), (w.heap.size + 1 + 1, [.bool ((bv pre).foldl (nextF s) (0, false)).2])] W) (fun _ => held_own _)
    (fun _ _ _ _ => False) (fun _ _ _ _ _ _ h _ _ => h) () hI0 ?a1 ?assign ?body ?done ?stop
  case assign =>
    intro l x W K hK
    gi_wp2
    exact hK
  case body =>
    rintro l pre ⟨x, hx1, hx2⟩ u W hI0 hB hz hl
    have hxl : x < s.ls.length := by
      apply Classical.byContradiction
      intro hn
      have h1 := HMb.out x
      rw [hx2, ln_out hn] at h1
      cases h1
    have HRW := HR.out W hB
    obtain ⟨g, hg, hgp, q0, q1, q2, q3, q4, qf, hglt⟩ := HRW.line hxl
    obtain ⟨g', hg', hgp', q0', q1', q2', q3', q4', qf', hglt'⟩ := (HR.out w (Below.refl _ _)).line hxl
    rw [hg] at hg'
    injection hg' with hg'
    injection hg' with hg'
    subst hg'
    have hbx := HRW.box
    obtain ⟨xr, yr⟩ := box_rules hbx
    have fN := Lib.hid (mnextl_any (HRW.ms _ (ln_mem hxl)))
    have Hps : Hid ((bv (pre ++ [⟨x, hx1, hx2⟩])).foldl (nextF s) (0, false) = nextF s ((bv pre).foldl (nextF s) (0, false)) x) := Lib.hid (by
      rw [show bv (pre ++ [(⟨x, hx1, hx2⟩ : Bit bm)]) = bv pre ++ [x] by simp [bv], List.foldl_append]; rfl)
    rw [nextF_eq] at Hps
    generalize (bv pre).foldl (nextF s) (0, false) = r at *
    obtain ⟨r1, r2⟩ := r
    generalize nxtL (s.ln x) = nx at *
    obtain ⟨lb, hlb⟩ : ∃ lb, decide ((s.ln x).L ≠ []) = lb := ⟨_, rfl⟩
    rw [hlb] at fN Hps
    obtain ⟨k0, _⟩ := hI0.head
    obtain ⟨k1, f1⟩ := hI0.tail.head
    obtain ⟨k2, f2⟩ := hI0.tail.tail.head
    have hlt := hB.size
    have l1 : w.heap.size < W.heap.size := by omega
    have HI0 := Lib.hid hI0
    have z4 : (x : Int) < (s.ls.length : Int) := by omega
    have z5 : (0 : Int) ≤ (x : Int) := by omega
    rw [hg] at xr
    dsimp only at k0 k1 k2 f1 f2 Hps
    clear hlb hI0 hit hB6 hbx HRW q1' q2' q3' q4' qf' q0' hg hgp' hglt'
    rw [Nat.add_zero] at q0
    cases lb
    · gi_wp2_with (refine ⟨trivial, ?_⟩; gi_at_call 34; refine (callsIn_round fN.out).mono ?_; rintro e w2 ⟨rfl, n2, rfl⟩)
      refine ⟨ko_drewN (KeepsOthers.refl _) _, bdrewN (Below.refl _ _) _, (), ?_⟩
      rw [Hps.out]
      exact HI0.out
    · cases r2
      · gi_wp2_with (refine ⟨trivial, ?_⟩; gi_at_call 34; refine (callsIn_round fN.out).mono ?_; rintro e w2 ⟨rfl, n2, rfl⟩)
        have hT1 : KeepsOthers W (((W.drewN n2).setCell ⟨w.heap.size + 1, 0, none⟩ (.int .i64 nx)).setCell ⟨w.heap.size + 1 + 1, 0, none⟩ (.bool true)) := ko_set (ko_set (ko_drewN (KeepsOthers.refl _) _) _ _) _ _
        refine ⟨hT1, Below.setCell (p := ⟨w.heap.size + 1 + 1, 0, none⟩) (Below.setCell (p := ⟨w.heap.size + 1, 0, none⟩) (bdrewN (Below.refl _ _) _) (by simp) _) (by simp; omega) _, (), ?_⟩
        rw [Hps.out]
        have z0 := (HI0.out.head).2
        exact Held.one (cell_set_far (cell_set_far k0 (by simp) _) (by simp) _) (by show World.frozen? (World.setCell (World.setCell W _ _) _ _) _ = false; rw [World.frozen?_setCell, World.frozen?_setCell]; exact z0)
          (Held.one (cell_set_far (World.cell?_setCell_same' W _ _ (by rw [k1]; rfl)) (by simp) _) (by show World.frozen? (World.setCell (World.setCell W _ _) _ _) _ = false; rw [World.frozen?_setCell, World.frozen?_setCell]; exact f1)
            (Held.one (World.cell?_setCell_same' _ _ _ (congrArg Option.isSome (cell_set_far (w := W) (p := ⟨w.heap.size + 1, 0, none⟩) k2 (by simp) (.int .i64 nx)))) (by show World.frozen? (World.setCell (World.setCell W _ _) _ _) _ = false; rw [World.frozen?_setCell, World.frozen?_setCell]; exact f2) (Held.nil _)))
      · by_cases hc : nx < r1
        · have zc : decide (nx < r1) = true := decide_eq_true hc
          simp only [zc] at Hps
          gi_wp2_with (refine ⟨trivial, ?_⟩; gi_at_call 34; refine (callsIn_round fN.out).mono ?_; rintro e w2 ⟨rfl, n2, rfl⟩)
          have hT1 : KeepsOthers W (((W.drewN n2).setCell ⟨w.heap.size + 1, 0, none⟩ (.int .i64 nx)).setCell ⟨w.heap.size + 1 + 1, 0, none⟩ (.bool true)) := ko_set (ko_set (ko_drewN (KeepsOthers.refl _) _) _ _) _ _
          refine ⟨hT1, Below.setCell (p := ⟨w.heap.size + 1 + 1, 0, none⟩) (Below.setCell (p := ⟨w.heap.size + 1, 0, none⟩) (bdrewN (Below.refl _ _) _) (by simp) _) (by simp; omega) _, (), ?_⟩
          rw [Hps.out]
          have z0 := (HI0.out.head).2
          exact Held.one (cell_set_far (cell_set_far k0 (by simp) _) (by simp) _) (by show World.frozen? (World.setCell (World.setCell W _ _) _ _) _ = false; rw [World.frozen?_setCell, World.frozen?_setCell]; exact z0)
            (Held.one (cell_set_far (World.cell?_setCell_same' W _ _ (by rw [k1]; rfl)) (by simp) _) (by show World.frozen? (World.setCell (World.setCell W _ _) _ _) _ = false; rw [World.frozen?_setCell, World.frozen?_setCell]; exact f1)
              (Held.one (World.cell?_setCell_same' _ _ _ (congrArg Option.isSome (cell_set_far (w := W) (p := ⟨w.heap.size + 1, 0, none⟩) k2 (by simp) (.int .i64 nx)))) (by show World.frozen? (World.setCell (World.setCell W _ _) _ _) _ = false; rw [World.frozen?_setCell, World.frozen?_setCell]; exact f2) (Held.nil _)))
        · have zc : decide (nx < r1) = false := decide_eq_false hc
          simp only [zc] at Hps
          gi_wp2_with (refine ⟨trivial, ?_⟩; gi_at_call 34; refine (callsIn_round fN.out).mono ?_; rintro e w2 ⟨rfl, n2, rfl⟩)
          refine ⟨ko_drewN (KeepsOthers.refl _) _, bdrewN (Below.refl _ _) _, (), ?_⟩
          rw [Hps.out]
          exact HI0.out
  case done =>
    rintro D' xs u W hD hS hI hB hK
    have hS' := Lib.hid hS; clear hS
    rw [hS'.out, ← HN.out] at hI
    obtain ⟨k1, _⟩ := hI.tail.head
    obtain ⟨k2, _⟩ := hI.tail.tail.head
    obtain ⟨⟨r1, r2⟩, hr⟩ : ∃ r, nextM s s.ls.length = r := ⟨_, rfl⟩
    rw [hr] at k1 k2
    have HRr := Lib.hid hr
    clear hr hI
    dsimp only at k1 k2
    go_wp2
    go_quiet (fail)
    go_wp2
    refine post_mark (v := .tuple #[.int .i64 r1, .bool r2]) hK (by simp [results, Tryd.f11, go_sem]) ?_
    unfold RetNx
    rw [HRr.out]
    exact ⟨rfl, (bdrewN hB nq).trans (belowK_b (w := w) (Nat.le_refl _) _ D' _ _ (by have := hB6.size; omega) hK rfl rfl)⟩
  case stop =>
    rintro D' c pre s W hD hpre h
    exact h.elim
end Go.Proofs.YtpncbkodhojicaaDoor

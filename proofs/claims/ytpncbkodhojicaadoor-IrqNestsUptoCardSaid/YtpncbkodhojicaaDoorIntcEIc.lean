/- Package intc: the walk of the desk's next. Conditions: a desk of a right controller; the de Bruijn table as its initialiser lays it. -/
import Derived.Test.YtpncbkodhojicaaDoorIqC1
import Derived.Test.YtpncbkodhojicaaDoorDraw
namespace Go.Proofs.YtpncbkodhojicaaDoor
open Go.RowKit Go.Shelf
attribute [local go_sem] Oper.semAt_some

/-- which one is best, of those that have come, above a level -/
def IC.pick (d : IC) : List Nat → Int × Int → Int × Int
  | [], s => s
  | n :: l, s => d.pick l (if s.2 < d.pr n then ((n : Int), d.pr n) else s)
theorem IC.pick_snoc (d : IC) (x : Nat) : ∀ (l : List Nat) (s : Int × Int), d.pick (l ++ [x]) s = if (d.pick l s).2 < d.pr x then ((x : Int), d.pr x) else d.pick l s
  | [], _ => rfl
  | _ :: l, _ => IC.pick_snoc d x l _
def IC.waits (d : IC) : Nat := (d.p &&& d.e) &&& (18446744073709551615 - ofList d.stack)
def IC.best (d : IC) : Int := (d.pick (bitsOf d.waits) (64, d.level)).1
theorem IC.waits_lt (d : IC) (hf : d.Fits) : d.waits < 18446744073709551616 := Nat.lt_of_le_of_lt Nat.and_le_left (Nat.lt_of_le_of_lt Nat.and_le_left hf.p)
theorem IC.waits_eq (d : IC) (hf : d.Fits) : bits .andNot .u64 (bits .and .u64 (d.p : Int) (d.e : Int)) ((ofList d.stack : Nat) : Int) = (d.waits : Int) := by
  rw [u64_and_nat _ _ hf.p hf.e, u64_andNot_nat _ _ (Nat.lt_of_le_of_lt Nat.and_le_left hf.p) (ofList_lt _)]; rfl

def NextPost (d : IC) (w : World) (e : Ending) (w' : World) : Prop := e = .returned (.tuple #[.int .i64 d.best, .bool (d.best != 64)]) ∧ Below w.heap.size w w'

set_option maxHeartbeats 4000000 in
set_option maxRecDepth 100000 in
theorem next_any {w : World} {base D : Nat} {d : IC} {pA : Option Addr} {pc : Nat} {sA : Option Addr} {sc : Nat} (hD : Desk w base D d pA pc sA sc) (hf : d.Fits) (hk : d.ok) (hT : Tab w) :
    Calls Tryd.prog 59 #[.pointer (some ⟨D, 0, none⟩)] w (NextPost d w) := by
  have hDk : ∀ W, Below w.heap.size w W → Desk W base D d pA pc sA sc := fun W hb => ⟨hD.lo, box_keep hD.blk hb, own_below hD.prio hb, own_below hD.stack hb, hD.apart⟩
  have HD := Lib.hid hDk; clear hDk
  have hDl := box_lt hD.blk
  have HT := Lib.hid hT; clear hT
  have f1 := Lib.hid (fun W h => level_any (HD.out W h) hf hk)
  have f2 := Lib.hid (fun W h => active_any (HD.out W h) hf hk)
  have hw := Lib.hid (d.waits_eq hf)
  clear hD
  refine calls_marks Tryd.func59 rfl ?_
  simp only [Tryd.ntmps59, List.size_toArray, List.length_cons, List.length_nil, Nat.reduceAdd, Nat.reduceSub, Array.replicate_succ, Array.replicate_zero, List.push_toArray, List.append_toArray, List.nil_append, List.cons_append]
  go_wp2_with fail
  refine (f1.out _ ((Below.refl _ _).alloc (Nat.le_refl _) _)).mono ?_
  rintro e w1 ⟨rfl, k, rfl⟩
  go_wp2_with fail
  refine name_world fun W4 hW4 => ?_
  have hz4 : W4.heap.size = w.heap.size + 3 := by rw [hW4]; simp
  have hB4 : Below w.heap.size w W4 := by rw [hW4]; exact (((bdrewN ((Below.refl _ _).alloc (Nat.le_refl _) _) k).alloc (by simp) _).alloc (by simp; omega) _)
  have x0 : W4.heap[w.heap.size]? = some (.cells #[.pointer (some ⟨D, 0, none⟩)] 124 (0, 0)) := by rw [hW4]; exact box_alloc (box_alloc (heap_alloc_new w _) _) _
  have x1 : W4.heap[w.heap.size + 1]? = some (.cells #[.int .i64 64] 3 (0, 0)) := by rw [hW4]; exact box_alloc (heap_new_at _ (by simp)) _
  have x2 : W4.heap[w.heap.size + 1 + 1]? = some (.cells #[.int .i64 d.level] 3 (0, 0)) := by rw [hW4]; exact heap_new_at _ (by simp)
  clear hW4
  have X0 := Lib.hid x0; clear x0
  have X1 := Lib.hid x1; clear x1
  have X2 := Lib.hid x2; clear x2
  obtain ⟨r0, _⟩ := box_rules X0.out
  obtain ⟨r1, _⟩ := box_rules (HD.out W4 hB4).blk
  refine wp_region_still_tail 14 (by kernel_rfl) (by kernel_rfl) ?_
  simp only [List.take_succ_cons, List.take_zero, List.drop_succ_cons, List.drop_zero]
  repeat still_step
  still_call ((f2.out _ (bdrewN hB4 1)).mono fun _ _ ⟨a, b⟩ => ⟨a, b.symm⟩)
  repeat still_step
  refine wpStill_nil ?_
  rw [hw.out]
  change wpList _ _ _ _ _ W4.drew
  go_wp2_with (go_at_call 33; refine (each_any _ _).mono ?_; rintro e w' ⟨rfl, rfl⟩)
  refine name_world fun W6 hW6 => ?_
  have hz6 : W6.heap.size = w.heap.size + 4 := by rw [hW6]; simp [hz4]
  have hB6 : Below w.heap.size w W6 := by rw [hW6]; exact (hB4.alloc (by omega) _).drew
  have e0 : W6.heap[w.heap.size]? = some (.cells #[.pointer (some ⟨D, 0, none⟩)] 124 (0, 0)) := by rw [hW6]; exact box_alloc X0.out _
  have e1 : W6.heap[w.heap.size + 1]? = some (.cells #[.int .i64 64] 3 (0, 0)) := by rw [hW6]; exact box_alloc X1.out _
  have e2 : W6.heap[w.heap.size + 1 + 1]? = some (.cells #[.int .i64 d.level] 3 (0, 0)) := by rw [hW6]; exact box_alloc X2.out _
  have e3 : W6.heap[w.heap.size + 3]? = some (.cells #[.int .u64 d.waits] 66 (0, 0)) := by rw [hW6]; exact heap_new_at _ (by simp [hz4])
  have hit : Iter Tryd.prog 54 #[.pointer (some ⟨w.heap.size + 3, 0, none⟩)] (fun i : Bit d.waits => #[.int .i64 (i.1 : Nat)]) w.heap.size (fun xs => bv xs = bitsOf d.waits) (fun pre => bv pre <+: bitsOf d.waits) 64 W6 :=
    each_iter d.waits (w.heap.size + 3) w.heap.size W6 (d.waits_lt hf) (HT.out.below hB6 HT.out.lt) HT.out.lt hB6.size (by rw [(box_rules e3).1]; rfl)
  have hI0 : Held [(w.heap.size, [.pointer (some ⟨D, 0, none⟩)]), (w.heap.size + 1, [.int .i64 64]), (w.heap.size + 1 + 1, [.int .i64 d.level])] W6 :=
    Held.one (by rw [(box_rules e0).1]; rfl) ((box_rules e0).2 0) (Held.one (by rw [(box_rules e1).1]; rfl) ((box_rules e1).2 0) (Held.one (by rw [(box_rules e2).1]; rfl) ((box_rules e2).2 0) (Held.nil _)))
  clear e0 e1 e2 e3 hW6 r0 r1 X0 X1 X2
  refine wp_range (w0 := w) (n₀ := w.heap.size) rfl (enters_of Tryd.func54 (by kernel_rfl) rfl) hit (fun _ => rfl) (Nat.le_refl _) hB6
    (fun pre (_ : Unit) W => Held [(w.heap.size, [.pointer (some ⟨D, 0, none⟩)]), (w.heap.size + 1, [.int .i64 (d.pick (bv pre) (64, d.level)).1]), (w.heap.size + 1 + 1, [.int .i64 (d.pick (bv pre) (64, d.level)).2])] W) (fun _ => held_own _)
    (fun _ _ _ _ => False) (fun _ _ _ _ _ _ h _ _ => h) () hI0 ?a1 ?assign ?body ?done ?stop
  case assign =>
    intro l x W K hK
    gi_wp2
    exact hK
  case body =>
    rintro l pre ⟨x, hx1, hx2⟩ s W hI hB hz hl
    have hxl : x < d.prio.length := by
      apply Classical.byContradiction
      intro hn
      have h1 := (hk.sets x (by omega) hx1).1
      unfold IC.waits at hx2
      rw [Nat.testBit_and, Nat.testBit_and, h1] at hx2
      simp at hx2
    obtain ⟨b, hb, c1⟩ := (own_rd (HD.out W hB).prio).int hxl
    subst hb
    have hps : bv (pre ++ [⟨x, hx1, hx2⟩]) = bv pre ++ [x] := by simp [bv]
    have Hs := Lib.hid (d.pick_snoc x (bv pre) (64, d.level))
    have Hps := Lib.hid hps; clear hps
    have hpr : d.prio.getD x 0 = d.pr x := rfl
    rw [hpr] at c1
    clear hpr
    generalize hs0 : d.pick (bv pre) (64, d.level) = s0 at *
    obtain ⟨b0, m0⟩ := s0
    generalize hq : d.pr x = q at *
    have Hq := Lib.hid hq; clear hq
    obtain ⟨k0, _⟩ := hI.head
    obtain ⟨k1, f1⟩ := hI.tail.head
    obtain ⟨k2, f2⟩ := hI.tail.tail.head
    obtain ⟨x1, _⟩ := box_rules (HD.out W hB).blk
    have hlt := hB.size
    have hmx : Tryd.prog.follows .mixedOrders = true := by kernel_rfl
    clear HT hw hz4 hB4 hz6 hB6 hit hI0 hl
    dsimp only at k0 k1 k2 f1 f2 Hs
    have hbl : b.block < w.heap.size := by
      obtain ⟨b', hb', hc'⟩ := (own_rd (HD.out w (Below.refl _ _)).prio).int hxl
      cases hb'
      exact Rd.lt hc'
    have n1 : ¬ (⟨w.heap.size + 1, 0, none⟩ : Addr) = b.add x := fun e => by have h := congrArg Addr.block e; rw [add_block] at h; dsimp only at h; omega
    have n3 : ¬ (⟨w.heap.size + 1 + 1, 0, none⟩ : Addr) = b.add x := fun e => by have h := congrArg Addr.block e; rw [add_block] at h; dsimp only at h; omega
    clear hbl
    have HI := Lib.hid hI; clear hI
    by_cases hlt : m0 < q
    · gi_wp2
      refine round_quiet (by repeat (first | exact letsOut_range | refine letsOut_then ?_ | refine letsOut_block ?_)) (by kernel_rfl) (by kernel_rfl) (by kernel_rfl) ?_
      repeat (quiet_step (fail))
      refine wpQuiet_nil ?_
      intro _ hw'
      obtain ⟨nq, hw''⟩ := hw'
      subst hw''
      gi_wp2
      have HH : Hid (∀ n, Held [(w.heap.size, [.pointer (some ⟨D, 0, none⟩)]), (w.heap.size + 1, [.int .i64 (x : Int)]), (w.heap.size + 1 + 1, [.int .i64 q])] ((allSt [(9, ⟨w.heap.size + 1, 0, none⟩, .int .i64 x), (10, ⟨w.heap.size + 1 + 1, 0, none⟩, .int .i64 q)] (W.drewN nq)).drewN n)) := by
        intro n
        have z0 := (HI.out.head).2
        refine Held.one (cell_set_far (cell_set_far k0 (by simp) _) (by simp) _) (by simp only [allSt]; show World.frozen? (World.setCell (World.setCell W _ _) _ _) _ = false; rw [World.frozen?_setCell, World.frozen?_setCell]; exact z0)
          (Held.one (cell_set_far (World.cell?_setCell_same' W _ _ (by rw [k1]; rfl)) (by simp) _) (by simp only [allSt]; show World.frozen? (World.setCell (World.setCell W _ _) _ _) _ = false; rw [World.frozen?_setCell, World.frozen?_setCell]; exact f1)
            (Held.one (World.cell?_setCell_same' _ _ _ (congrArg Option.isSome (cell_set_far (w := W) (p := ⟨w.heap.size + 1, 0, none⟩) k2 (by simp) (.int .i64 x)))) (by simp only [allSt]; show World.frozen? (World.setCell (World.setCell W _ _) _ _) _ = false; rw [World.frozen?_setCell, World.frozen?_setCell]; exact f2) (Held.nil _)))
      refine round_draw [(9, ⟨w.heap.size + 1, 0, none⟩, .int .i64 x), (10, ⟨w.heap.size + 1 + 1, 0, none⟩, .int .i64 q)]
        (fun W' => W'.cell? ⟨w.heap.size, 0, none⟩ = some (.pointer (some ⟨D, 0, none⟩)) ∧ W'.cell? ⟨D, 4, none⟩ = some (.slice (some b) d.prio.length pc) ∧ W'.cell? (b.add x) = some (.int .i64 q) ∧ Wr W' ⟨w.heap.size + 1, 0, none⟩ ∧ Wr W' ⟨w.heap.size + 1 + 1, 0, none⟩)
        (by repeat (first | exact letsOut_range | refine letsOut_then ?_ | refine letsOut_block ?_)) (by kernel_rfl) (by kernel_rfl) (by kernel_rfl) (fun _ h => h) ?hst ?h0 ?hw
      case h0 => exact ⟨k0, x1 4, c1, ⟨⟨_, k1⟩, f1⟩, ⟨⟨_, k2⟩, f2⟩⟩
      case hst =>
        intro s hs W' ⟨g1, g2, g3, g4, g5⟩
        simp only [List.mem_cons, List.not_mem_nil, or_false] at hs
        rcases hs with rfl | rfl
        · exact ⟨cell_set_far g1 (by simp) _, cell_set_far g2 (by simp <;> omega) _, cell_set_far g3 n1 _, g4.set _ _, g5.set _ _⟩
        · exact ⟨cell_set_far g1 (by simp) _, cell_set_far g2 (by simp <;> omega) _, cell_set_far g3 n3 _, g4.set _ _, g5.set _ _⟩
      case hw =>
        clear HI HD hB hz Hq hs0 hf hk k0 k1 k2 x1 c1 f1 f2
        iterate 11
          (refine wpG_step (fun K hK => ?_)
           go_simp
           first | (apply Exists.intro; refine ⟨?_, hK _ ?_⟩) | refine ⟨⟨undef, ?_⟩, hK _ ?_⟩
           · rintro W' ⟨g1, g2, g3, ⟨⟨v4, g4⟩, f4⟩, ⟨⟨v5, g5⟩, f5⟩⟩
             unfold gAt
             go_simp
             exact ⟨rfl, rfl⟩
           clear hK K)
        intro n
        refine ⟨by repeat (first | exact KeepsOthers.refl _ | refine ko_set ?_ _ _ | refine ko_drew ?_ | refine ko_drewN ?_ _), by repeat (first | exact Below.refl _ _ | refine Below.setCell (p := ⟨w.heap.size + 1, 0, none⟩) ?_ (by simp) _ | refine Below.setCell (p := ⟨w.heap.size + 1 + 1, 0, none⟩) ?_ (by simp; omega) _ | refine Below.drew ?_ | refine bdrewN ?_ _), (), ?_⟩
        rw [Hps.out, Hs.out, if_pos hlt]
        exact HH.out n
    · gi_wp2
      refine round_quiet (by repeat (first | exact letsOut_range | refine letsOut_then ?_ | refine letsOut_block ?_)) (by kernel_rfl) (by kernel_rfl) (by kernel_rfl) ?_
      repeat (quiet_step (fail))
      refine wpQuiet_nil ?_
      intro _ hw'
      obtain ⟨nq, hw''⟩ := hw'
      subst hw''
      gi_wp2
      refine ⟨by repeat (first | exact KeepsOthers.refl _ | refine ko_set ?_ _ _ | refine ko_drew ?_ | refine ko_drewN ?_ _), by repeat (first | exact Below.refl _ _ | refine Below.setCell (p := ⟨w.heap.size + 1, 0, none⟩) ?_ (by simp) _ | refine Below.setCell (p := ⟨w.heap.size + 1 + 1, 0, none⟩) ?_ (by simp; omega) _ | refine Below.drew ?_ | refine bdrewN ?_ _), (), ?_⟩
      rw [Hps.out, Hs.out]
      rw [if_neg (by omega)]
      exact HI.out
  case done =>
    rintro D' xs s W hD hS hI hB hK
    have hS' := Lib.hid hS; clear hS
    obtain ⟨k1, _⟩ := hI.tail.head
    have hb' : (d.pick (bv xs) (64, d.level)).1 = d.best := by rw [hS'.out]; rfl
    rw [hb'] at k1
    clear hb'
    generalize hbb : d.best = bb at *
    have Hbb := Lib.hid hbb; clear hbb
    go_wp2
    go_quiet (fail)
    go_wp2
    refine post_mark (v := .tuple #[.int .i64 bb, .bool (bb != 64)]) hK (by simp [results, Tryd.f59, go_sem]) ?_
    rw [← Hbb.out]
    exact ⟨rfl, (bdrewN hB nq).trans (belowK_b (w := w) (Nat.le_refl _) _ D' _ _ (by have := hB6.size; omega) hK rfl rfl)⟩
  case stop =>
    rintro D' c pre s W hD hpre h
    exact h.elim
end Go.Proofs.YtpncbkodhojicaaDoor

/- Package demand: the walk of All. Conditions: lists that read. -/
import Derived.Test.YtgampofpabllbaaGreatRtD
import Derived.Test.YtgampofpabllbaaGreatRound
namespace Go.Proofs.YtgampofpabllbaaGreat
open Go.RowKit Go.Shelf
attribute [local go_sem] Oper.semAt_some

/-- What the loop over all arrivals holds; d: the heap's size behind the check. -/
structure AlI (w : World) (d : Nat) (pre : List Arv) (W : World) : Prop where
  s0 : 0 ≤ sumA pre
  s1 : sumA pre ≤ 4503599627370496
  r1 : W.heap[w.heap.size]? = some (.cells #[.int .i64 0] 2 (0, 0))
  r2 : W.heap[w.heap.size + 1]? = some (.cells #[.int .i64 0] 31 (0, 0))
  sum : W.heap[d]? = some (.cells #[.int .i64 (sumA pre)] 2 (0, 0))
  low : Below w.heap.size w W
  size : d + 3 ≤ W.heap.size
def AlX (w : World) (c : Code) (pre : List Arv) (W : World) : Prop :=
  c = .ret ∧ 4503599627370496 < sumA pre ∧ W.heap[w.heap.size]? = some (.cells #[.int .i64 0] 2 (0, 0)) ∧ W.heap[w.heap.size + 1]? = some (.cells #[.int .i64 10] 31 (0, 0)) ∧ Below w.heap.size w W
theorem alI_own {w : World} {d B : Nat} (hB : d < B) (hs : w.heap.size + 2 ≤ d) : OwnFrom B (AlI w d) := fun pre W W' row h hg hr =>
  ⟨h.s0, h.s1, ownFrom_box (β := Unit) (by omega) () W W' row h.r1 hg hr, ownFrom_box (β := Unit) (by omega) () W W' row h.r2 hg hr, ownFrom_box (β := Unit) (by omega) () W W' row h.sum hg hr, ownFrom_below (β := Unit) (by omega) (Nat.le_refl _) () W W' row h.low hg hr, Nat.le_trans h.size hg.size⟩
theorem alX_own {w : World} {B : Nat} (hB : w.heap.size + 2 ≤ B) (c : Code) : OwnFrom B (AlX w c) := fun pre W W' row hs hg hr => by
  obtain ⟨h1, h2, h5, h6, h7⟩ := hs
  exact ⟨h1, h2, ownFrom_box (β := Unit) (by omega) () W W' row h5 hg hr, ownFrom_box (β := Unit) (by omega) () W W' row h6 hg hr, ownFrom_below (β := Unit) (by omega) (Nat.le_refl _) () W W' row h7 hg hr⟩
set_option maxHeartbeats 4000000 in
set_option maxRecDepth 100000 in
theorem all_any (l : List Ld) (t : Int) (hl : l.length ≤ 1048576) (A : Option Addr) (c : Nat) (w : World) (hr : Rd w A (l.flatMap ldc)) :
    Calls Tryz.prog 155 #[.slice A l.length c, .int .i64 t] w (RetN (allN l t) (allWhy l t) w) := by
  have Hr := Lib.hid hr
  have f1 := Lib.hid (fun w hr => lcheck_any l hl A c w hr)
  have f2 := Lib.hid (fun w => arrv_any A l.length c t w)
  have Hf : Hid (ldsWhy l ≠ 0 → allWhy l t = 2 ∧ allN l t = 0) := Lib.hid all_form
  have Hg : Hid (ldsWhy l = 0 → inB t 0 4503599627370496 = false → allWhy l t = 1 ∧ allN l t = 0) := Lib.hid all_range
  have Ho : Hid (ldsWhy l = 0 → inB t 0 4503599627370496 = true → ∀ k, k ≤ l.length → 4503599627370496 < totK l t k → allWhy l t = 10 ∧ allN l t = 0) := Lib.hid (fun h h2 k hk h3 => all_over h h2 hk h3)
  have Hk : Hid (ldsWhy l = 0 → inB t 0 4503599627370496 = true → totK l t l.length ≤ 4503599627370496 → allWhy l t = 0 ∧ allN l t = totK l t l.length) := Lib.hid all_ok
  have Hin : Hid (ldsWhy l = 0 → ∀ x ∈ l, ldOk x = true) := Lib.hid (fun h => (lds_in h).2)
  have H02 := lds_02 l
  clear hr
  generalize allN l t = N at *
  generalize allWhy l t = Y at *
  generalize ldsWhy l = y at *
  refine calls_marks Tryz.func155 rfl ?_
  simp only [Tryz.ntmps155, List.size_toArray, List.length_cons, List.length_nil, Nat.reduceAdd, Nat.reduceSub, Array.replicate_succ, Array.replicate_zero, List.push_toArray, List.append_toArray, List.nil_append, List.cons_append]
  go_wp2_with fail
  refine (f1.out _ ((Hr.out.alloc _).alloc _)).mono ?_
  rintro e w2 ⟨rfl, hb⟩
  have HR1 : Hid (w2.heap[w.heap.size]? = some (.cells #[.int .i64 0] 2 (0, 0))) := Lib.hid (box_keep (box_alloc (heap_alloc_new w _) _) hb)
  have HR2 : Hid (w2.heap[w.heap.size + 1]? = some (.cells #[.int .i64 0] 31 (0, 0))) := Lib.hid (box_keep (heap_new_at _ (by simp)) hb)
  have HB := Lib.hid ((((Below.refl w.heap.size w).alloc (Nat.le_refl _) _).alloc (by simp) _).trans (hb.mono (by simp; omega)))
  have s2 : w.heap.size + 2 ≤ w2.heap.size := by have := hb.size; simp at this; omega
  clear hb f1
  obtain ⟨kx, ky⟩ := box_rules HR1.out
  obtain ⟨mx', my'⟩ := box_rules HR2.out
  rcases H02 with rfl | rfl
  · clear Hf
    by_cases ht : 0 ≤ t ∧ t ≤ 4503599627370496
    · have hi : inB t 0 4503599627370496 = true := inB_true.2 ht
      have Ho2 := Lib.hid (Ho.out (by first | rfl | trivial) hi)
      have Hk2 := Lib.hid (Hk.out (by first | rfl | trivial) hi)
      have Hi2 := Lib.hid (Hin.out (by first | rfl | trivial))
      have IT := Lib.hid (fun b1 b2 n1 out w0 w h0 k2 q2 hb1 hb2 hr => arv_iter l t Hi2.out ht A c b1 b2 n1 out w0 w hl h0 k2 q2 hb1 hb2 hr)
      have HSd := Lib.hid (sumA_arE Hi2.out ht l.length (Nat.le_refl _))
      have HSp := Lib.hid (fun p hp => sumA_pre Hi2.out ht (p := p) l.length (Nat.le_refl _) hp)
      obtain ⟨t1, t2⟩ := ht
      have d1 : decide (t < 0) = false := by simp; omega
      have d2 : decide (4503599627370496 < t) = false := by simp; omega
      clear Hg Ho Hk Hin hi
      go_wp2_with (go_at_call 156; refine (f2.out _).mono ?_; rintro e w' ⟨rfl, rfl⟩)
      refine name_world fun W6 hW6 => ?_
      have hs6 : w2.heap.size + 3 ≤ W6.heap.size := by rw [hW6]; simp
      have hB2 : Below w2.heap.size w2 W6 := by rw [hW6]; exact (((Below.refl _ _).alloc (Nat.le_refl _) _).alloc (by simp) _).alloc (by simp; omega) _
      have hB6 : Below w.heap.size w W6 := HB.out.trans (hB2.mono HB.out.size)
      have x0 : W6.heap[w2.heap.size]? = some (.cells #[.int .i64 0] 2 (0, 0)) := by rw [hW6]; exact box_alloc (box_alloc (heap_alloc_new _ _) _) _
      have x1 : W6.heap[w2.heap.size + 1]? = some (.cells #[.slice A l.length c] 76 (0, 0)) := by rw [hW6]; exact box_alloc (heap_new_at _ (by simp)) _
      have x2 : W6.heap[w2.heap.size + 1 + 1]? = some (.cells #[.int .i64 t] 2 (0, 0)) := by rw [hW6]; exact heap_new_at _ (by simp)
      have hit := IT.out (w2.heap.size + 1) (w2.heap.size + 1 + 1) (w2.heap.size + 3) [w.heap.size, w.heap.size + 1, w2.heap.size] w W6 hB6 (by omega) (by simp; omega) x1 x2 Hr.out
      have hI0 : AlI w w2.heap.size [] W6 := ⟨Int.le_refl _, (show (0 : Int) ≤ 4503599627370496 by omega), box_keep HR1.out hB2, box_keep HR2.out hB2, x0, hB6, hs6⟩
      clear hW6 x0 x1 x2 IT hB2 kx ky mx' my'
      refine (wpIn_wide (n := 9)).1 (wpIn_rangeFunc_ownH (F := Fence.wide) (n := 9) rfl (by omega) rfl trivial (enters_of Tryz.func158 (by kernel_rfl) rfl) hit (fun h k => h.trans k) (KeepsLow.put (by omega)) (Below.refl _ _) (fun _ => rfl)
        (AlI w w2.heap.size) (AlX w) (alI_own (by omega) s2) (alX_own (by omega)) hI0
        (fun x a' W => a' = { tmps := #[.slice A l.length c, .int .i64 t, undef, undef, .pointer (some ⟨w.heap.size, 0, none⟩), .pointer (some ⟨w.heap.size + 1, 0, none⟩), .int .i64 0, .pointer (some ⟨w2.heap.size, 0, none⟩), .int .i64 x.n, .int .i64 x.c, undef, undef, .slice A l.length c, .int .i64 0, .bool false, .int .i64 0, .bool false, undef, .bool false, .int .i64 t, .bool false, .bool false, .int .i64 t, .bool false, .bool false, .slice A l.length c, .int .i64 t, .func (.func 158) #[] #[.pointer (some ⟨w2.heap.size + 1, 0, none⟩), .pointer (some ⟨w2.heap.size + 1 + 1, 0, none⟩)], .int .i64 x.n, .int .i64 x.c, undef, undef, undef, undef, undef, undef, undef, undef, undef, undef, undef, undef, undef, undef], defers := [] })
        (fun x a' s W W' row hs hg hr => hs)
        ?assign ?body ?done ?stop)
      case assign =>
        rintro l' pre ⟨n, c', hx⟩ W K hI hK
        dsimp only [arv]
        gi_wp2
        exact hK _ _ (KeepsFrom.refl _ _) (KeepsLow.refl _) hI rfl
      case body =>
        rintro l' pre ⟨n, c', ⟨n1, n2⟩, c1, c2⟩ a' W hl' _ hI rfl hlen
        clear hit hI0 hB6
        obtain ⟨sx, sy⟩ := box_rules hI.sum
        obtain ⟨r1x, r1y⟩ := box_rules hI.r1
        obtain ⟨r2x, r2y⟩ := box_rules hI.r2
        have HI := Lib.hid hI
        have i0 := hI.s0
        have i1 := hI.s1
        have HSn := Lib.hid (sumA_snoc pre ⟨n, c', ⟨n1, n2⟩, c1, c2⟩)
        clear hI
        dsimp only at HSn ⊢
        generalize hS : sumA pre = S at *
        have HS := Lib.hid hS
        clear hS
        have fT := Lib.hid (fun w => times_any n c' (4503599627370496 - S) ⟨n1, n2⟩ ⟨c1, c2⟩ (by omega) w)
        have HO : Hid (overB n c' (4503599627370496 - S) = decide (4503599627370496 - S < n * c')) := Lib.hid rfl
        have hm : 0 ≤ n * c' := Int.mul_nonneg n1 c1
        generalize overB n c' (4503599627370496 - S) = v at *
        have e1 : IntKind.i64.wrap (4503599627370496 - S) = 4503599627370496 - S := IntWalk.i64_in _ (by omega)
        cases v with
        | true =>
          have ho : 4503599627370496 < S + n * c' := by have := of_decide_eq_true HO.out.symm; omega
          have Ho3 := Lib.hid ho
          rw [if_pos rfl] at fT
          clear ho HO
          gi_wp2_with (refine ⟨trivial, ?_⟩; gi_at_call 157; refine (callsIn_round (fT.out _)).mono ?_; rintro e w3 ⟨rfl, rfl⟩)
          refine ⟨?_, rfl, by rw [HSn.out]; exact Ho3.out, ?_, ?_, ?_⟩
          · exact (ko_set (ko_set (KeepsOthers.refl W) _ _) _ _).from _
          · exact box_far (box_set (t := 2) (cs := #[.int .i64 0]) (i := 0) HI.out.r1 _) (p := ⟨w.heap.size + 1, 0, none⟩) (by show _ ≠ w.heap.size + 1; omega) _
          · exact box_set (t := 31) (cs := #[.int .i64 0]) (i := 0) (box_far HI.out.r2 (p := ⟨w.heap.size, 0, none⟩) (by show _ ≠ w.heap.size; omega) _) _
          · exact ((HI.out.low.setCell (p := ⟨w.heap.size, 0, none⟩) (Nat.le_refl _) _).setCell (p := ⟨w.heap.size + 1, 0, none⟩) (by show _ ≤ w.heap.size + 1; omega) _)
        | false =>
          have ho : ¬ 4503599627370496 - S < n * c' := of_decide_eq_false HO.out.symm
          have Ho3 := Lib.hid ho
          rw [if_neg (by simp)] at fT
          have e2 : IntKind.i64.wrap (S + n * c') = S + n * c' := IntWalk.i64_in _ (by omega)
          clear HO
          gi_wp2_with (refine ⟨trivial, ?_⟩; gi_at_call 157; refine (callsIn_round (fT.out _)).mono ?_; rintro e w3 ⟨rfl, rfl⟩)
          refine ⟨?_, ?_, ⟨?_, ?_, ?_, ?_, ?_, ?_, ?_⟩⟩
          · exact (ko_set (KeepsOthers.refl W) _ _).from _
          · exact (KeepsLow.refl W).set (p := ⟨w2.heap.size, 0, none⟩) (by show _ ≤ w2.heap.size; omega) (.inl (by simp)) _
          · rw [HSn.out]; omega
          · rw [HSn.out]; have := Ho3.out; omega
          · exact box_far HI.out.r1 (p := ⟨w2.heap.size, 0, none⟩) (by show _ ≠ w2.heap.size; omega) _
          · exact box_far HI.out.r2 (p := ⟨w2.heap.size, 0, none⟩) (by show _ ≠ w2.heap.size; omega) _
          · rw [HSn.out]
            have h := HI.out.sum
            rw [HS.out] at h
            exact box_set (t := 2) (cs := #[.int .i64 S]) (i := 0) h _
          · exact HI.out.low.setCell (p := ⟨w2.heap.size, 0, none⟩) (by show _ ≤ w2.heap.size; omega) _
          · exact Nat.le_trans HI.out.size (by simp [World.setCell])
      case done =>
        intro D' xs W hD hS hI hK
        have hs1 := hI.s1
        obtain rfl : xs = arE l t l.length := hS
        rw [HSd.out] at hs1
        obtain ⟨rfl, rfl⟩ := Hk2.out hs1
        have hsum := hI.sum
        rw [HSd.out] at hsum
        have HI := Lib.hid hI; have HSU := Lib.hid hsum; clear hI hsum
        obtain ⟨kx, ky⟩ := box_rules HI.out.r1
        obtain ⟨mx', my'⟩ := box_rules HI.out.r2
        obtain ⟨ux, uy⟩ := box_rules HSU.out
        clear hit hI0 hB6 Ho2 Hk2 HSd HSp
        generalize totK l t l.length = S at *
        dsimp only
        go_wp2
        have h1 : ((W.setCell ⟨w.heap.size, 0, none⟩ (.int .i64 S)).setCell ⟨w.heap.size + 1, 0, none⟩ (.int .i64 0)).heap[w.heap.size]? = some (.cells #[.int .i64 S] 2 (0, 0)) :=
          box_far (box_set (t := 2) (cs := #[.int .i64 0]) (i := 0) HI.out.r1 _) (p := ⟨w.heap.size + 1, 0, none⟩) (by show _ ≠ w.heap.size + 1; omega) _
        have h2 : ((W.setCell ⟨w.heap.size, 0, none⟩ (.int .i64 S)).setCell ⟨w.heap.size + 1, 0, none⟩ (.int .i64 0)).heap[w.heap.size + 1]? = some (.cells #[.int .i64 0] 31 (0, 0)) :=
          box_set (t := 31) (cs := #[.int .i64 0]) (i := 0) (box_far HI.out.r2 (p := ⟨w.heap.size, 0, none⟩) (by show _ ≠ w.heap.size; omega) _) _
        have h3 : ((W.setCell ⟨w.heap.size, 0, none⟩ (.int .i64 S)).setCell ⟨w.heap.size + 1, 0, none⟩ (.int .i64 0)).heap[D']? = some (.deferred (some [])) :=
          box_far (box_far hK (p := ⟨w.heap.size, 0, none⟩) (by show _ ≠ w.heap.size; omega) _) (p := ⟨w.heap.size + 1, 0, none⟩) (by show _ ≠ w.heap.size + 1; omega) _
        have h4 : Below w.heap.size w ((W.setCell ⟨w.heap.size, 0, none⟩ (.int .i64 S)).setCell ⟨w.heap.size + 1, 0, none⟩ (.int .i64 0)) :=
          ((HI.out.low.setCell (p := ⟨w.heap.size, 0, none⟩) (Nat.le_refl _) _).setCell (p := ⟨w.heap.size + 1, 0, none⟩) (by show _ ≤ w.heap.size + 1; omega) _)
        have kk1 := h1
        have kk2 := h2
        obtain ⟨p1, _⟩ := box_rules ((World.putObj_heap_other (o := .deferred none) (by omega : w.heap.size ≠ D')).trans kk1)
        obtain ⟨p2, _⟩ := box_rules ((World.putObj_heap_other (o := .deferred none) (by omega : w.heap.size + 1 ≠ D')).trans kk2)
        refine post_mark (v := .tuple #[.int .i64 (S), .int .i64 (0)]) h3 (by simp [results, Tryz.f155, go_sem, p1, p2]) ?_
        exact ⟨rfl, (h4).trans ((Below.refl _ _).grown (grownBy_putObj' _ D' _) (h4).size (fun k e => by cases e; omega))⟩
      case stop =>
        rintro D' c' pre W hD hS ⟨rfl, g1, g3, g4, g5⟩ hK
        obtain ⟨k, hk, e⟩ := HSp.out pre hS
        rw [e] at g1
        obtain ⟨rfl, rfl⟩ := Ho2.out k hk g1
        clear hit hI0 hB6 hS Ho2 Hk2 HSd HSp e g1
        dsimp only
        refine (wpIn_wide (n := 9)).2 ?_
        go_wp2
        have kk1 := g3
        have kk2 := g4
        obtain ⟨p1, _⟩ := box_rules ((World.putObj_heap_other (o := .deferred none) (by omega : w.heap.size ≠ D')).trans kk1)
        obtain ⟨p2, _⟩ := box_rules ((World.putObj_heap_other (o := .deferred none) (by omega : w.heap.size + 1 ≠ D')).trans kk2)
        refine post_mark (v := .tuple #[.int .i64 (0), .int .i64 (10)]) hK (by simp [results, Tryz.f155, go_sem, p1, p2]) ?_
        exact ⟨rfl, (g5).trans ((Below.refl _ _).grown (grownBy_putObj' _ D' _) (g5).size (fun k e => by cases e; omega))⟩
    · have hi : inB t 0 4503599627370496 = false := by unfold inB; exact decide_eq_false ht
      obtain ⟨rfl, rfl⟩ := Hg.out (by first | rfl | trivial) hi
      clear Hg Ho Hk Hin hi
      by_cases h0 : t < 0
      · go_wp2
        have h1 : ((w2.setCell ⟨w.heap.size, 0, none⟩ (.int .i64 0)).setCell ⟨w.heap.size + 1, 0, none⟩ (.int .i64 1)).heap[w.heap.size]? = some (.cells #[.int .i64 0] 2 (0, 0)) :=
          box_far (box_set (t := 2) (cs := #[.int .i64 0]) (i := 0) HR1.out _) (p := ⟨w.heap.size + 1, 0, none⟩) (by show _ ≠ w.heap.size + 1; omega) _
        have h2 : ((w2.setCell ⟨w.heap.size, 0, none⟩ (.int .i64 0)).setCell ⟨w.heap.size + 1, 0, none⟩ (.int .i64 1)).heap[w.heap.size + 1]? = some (.cells #[.int .i64 1] 31 (0, 0)) :=
          box_set (t := 31) (cs := #[.int .i64 0]) (i := 0) (box_far HR2.out (p := ⟨w.heap.size, 0, none⟩) (by show _ ≠ w.heap.size; omega) _) _
        have h4 : Below w.heap.size w ((w2.setCell ⟨w.heap.size, 0, none⟩ (.int .i64 0)).setCell ⟨w.heap.size + 1, 0, none⟩ (.int .i64 1)) :=
          ((HB.out.setCell (p := ⟨w.heap.size, 0, none⟩) (Nat.le_refl _) _).setCell (p := ⟨w.heap.size + 1, 0, none⟩) (by show _ ≤ w.heap.size + 1; omega) _)
        obtain ⟨p1, _⟩ := box_rules h1
        obtain ⟨p2, _⟩ := box_rules h2
        refine post_plain (v := .tuple #[.int .i64 0, .int .i64 1]) (by simp [results, Tryz.f155, go_sem, p1, p2]) ?_
        exact ⟨rfl, h4⟩
      · have h1 : 4503599627370496 < t := by omega
        go_wp2
        have h1 : ((w2.setCell ⟨w.heap.size, 0, none⟩ (.int .i64 0)).setCell ⟨w.heap.size + 1, 0, none⟩ (.int .i64 1)).heap[w.heap.size]? = some (.cells #[.int .i64 0] 2 (0, 0)) :=
          box_far (box_set (t := 2) (cs := #[.int .i64 0]) (i := 0) HR1.out _) (p := ⟨w.heap.size + 1, 0, none⟩) (by show _ ≠ w.heap.size + 1; omega) _
        have h2 : ((w2.setCell ⟨w.heap.size, 0, none⟩ (.int .i64 0)).setCell ⟨w.heap.size + 1, 0, none⟩ (.int .i64 1)).heap[w.heap.size + 1]? = some (.cells #[.int .i64 1] 31 (0, 0)) :=
          box_set (t := 31) (cs := #[.int .i64 0]) (i := 0) (box_far HR2.out (p := ⟨w.heap.size, 0, none⟩) (by show _ ≠ w.heap.size; omega) _) _
        have h4 : Below w.heap.size w ((w2.setCell ⟨w.heap.size, 0, none⟩ (.int .i64 0)).setCell ⟨w.heap.size + 1, 0, none⟩ (.int .i64 1)) :=
          ((HB.out.setCell (p := ⟨w.heap.size, 0, none⟩) (Nat.le_refl _) _).setCell (p := ⟨w.heap.size + 1, 0, none⟩) (by show _ ≤ w.heap.size + 1; omega) _)
        obtain ⟨p1, _⟩ := box_rules h1
        obtain ⟨p2, _⟩ := box_rules h2
        refine post_plain (v := .tuple #[.int .i64 0, .int .i64 1]) (by simp [results, Tryz.f155, go_sem, p1, p2]) ?_
        exact ⟨rfl, h4⟩
  · obtain ⟨rfl, rfl⟩ := Hf.out (by first | decide | trivial)
    clear Hg Ho Hk Hin Hf
    go_wp2
    have h1 : ((w2.setCell ⟨w.heap.size, 0, none⟩ (.int .i64 0)).setCell ⟨w.heap.size + 1, 0, none⟩ (.int .i64 2)).heap[w.heap.size]? = some (.cells #[.int .i64 0] 2 (0, 0)) :=
      box_far (box_set (t := 2) (cs := #[.int .i64 0]) (i := 0) HR1.out _) (p := ⟨w.heap.size + 1, 0, none⟩) (by show _ ≠ w.heap.size + 1; omega) _
    have h2 : ((w2.setCell ⟨w.heap.size, 0, none⟩ (.int .i64 0)).setCell ⟨w.heap.size + 1, 0, none⟩ (.int .i64 2)).heap[w.heap.size + 1]? = some (.cells #[.int .i64 2] 31 (0, 0)) :=
      box_set (t := 31) (cs := #[.int .i64 0]) (i := 0) (box_far HR2.out (p := ⟨w.heap.size, 0, none⟩) (by show _ ≠ w.heap.size; omega) _) _
    have h4 : Below w.heap.size w ((w2.setCell ⟨w.heap.size, 0, none⟩ (.int .i64 0)).setCell ⟨w.heap.size + 1, 0, none⟩ (.int .i64 2)) :=
      ((HB.out.setCell (p := ⟨w.heap.size, 0, none⟩) (Nat.le_refl _) _).setCell (p := ⟨w.heap.size + 1, 0, none⟩) (by show _ ≤ w.heap.size + 1; omega) _)
    obtain ⟨p1, _⟩ := box_rules h1
    obtain ⟨p2, _⟩ := box_rules h2
    refine post_plain (v := .tuple #[.int .i64 0, .int .i64 2]) (by simp [results, Tryz.f155, go_sem, p1, p2]) ?_
    exact ⟨rfl, h4⟩
end Go.Proofs.YtgampofpabllbaaGreat

/- Package chart: the walks of add, Runs. Conditions: lists that read. -/
import Derived.Test.YtlmhgfgdkenpfaaDoorChC
import Derived.Deep.RegionLaw
import Derived.StillTailTactics
namespace Go.Proofs.YtlmhgfgdkenpfaaDoor
open Go.RowKit Go.Shelf
attribute [local go_sem] Oper.semAt_some

theorem still_tailD {P : Program} {id : Nat} {Q : Exit → Act → World → Prop} {a : Act} {w : World} {ops : List Oper} (m : Nat) (hm : P.follows .mixedOrders = true) (hB : Region.lexTailB .any ops.toArray m = true)
    (h : wpStill P ops.toArray w.drew (fun a' => wpList P ops.toArray Q (ops.drop m) a' w.drew) (ops.take m) a) : (Code.region id ops.toArray true).wp P Q a w := wp_region_still_tail m hm hB h
theorem sk_rn : SlK Tryd.prog 23 33 4 32 := SlK.mk' (z := .agg #[.int .u8 0, .int .i64 0, .int .i64 0, .int .i64 0]) Tryd.underlying23 (by kernel_rfl) rfl (by decide)
theorem rnc_len (l : List Rn) : (l.flatMap rnc).length = l.length * 4 := by
  induction l with
  | nil => rfl
  | cons x l ih => rw [List.flatMap_cons, List.length_append, ih]; simp [rnc]; omega
theorem flat_set4 {α : Type} {f : α → List Value} {k : Nat} (hk : ∀ x, (f x).length = k) {d : α} : ∀ (l : List α) (i j : Nat) (y : α) (u : Value), i < l.length → j < k → f y = (f (l.getD i d)).set j u → (l.flatMap f).set (i * k + j) u = (l.set i y).flatMap f
  | x :: l, 0, j, y, u, _, hj, h => by
    rw [List.flatMap_cons, List.set_cons_zero, List.flatMap_cons, Nat.zero_mul, Nat.zero_add, List.set_append_left _ _ (by rw [hk]; exact hj), h]
    rfl
  | x :: l, i + 1, j, y, u, hi, hj, h => by
    have ih := flat_set4 hk (d := d) l i j y u (by simpa using hi) hj h
    rw [List.flatMap_cons, List.set_cons_succ, List.flatMap_cons, List.set_append_right _ _ (by rw [hk, Nat.add_mul]; omega), hk, show (i + 1) * k + j - k = i * k + j by rw [Nat.add_mul]; omega, ih]
theorem own_put' {w : World} {base : Nat} {e : TypeId} {k n c : Nat} {a : Addr} {vs : List Value} (h : w.ownsRow base e k (.slice (some a) n c) n vs) (m j : Nat) (u : Value) :
    (w.setCell ⟨(a.add m).block, (a.add m).off + j, none⟩ u).ownsRow base e k (.slice (some a) n c) n (vs.set (m + j) u) := by
  refine ⟨by rw [List.length_set]; exact h.1, ?_⟩
  rcases h.2 with ⟨h1, _⟩ | ⟨g, cap, cur, h1, h2, h3, h4, h5, h6, h7⟩
  · cases h1
  · injection h1 with h1 h8 h9
    injection h1 with h1
    subst h1 h9
    have e0 : ((⟨g, 0, none⟩ : Addr).add m) = ⟨g, m, none⟩ := by rw [add_zero_lit, Nat.zero_add]
    rw [e0]
    refine .inr ⟨g, _, cur.setIfInBounds (m + j) u, rfl, h2, ?_, h4, h5, by simpa using h6, ?_⟩
    · have := box_set (i := m + j) h3 u
      exact this
    · rw [Array.toList_setIfInBounds, List.take_set, h7]
theorem own_froz' {w : World} {base : Nat} {e : TypeId} {k n c : Nat} {a : Addr} {vs : List Value} (h : w.ownsRow base e k (.slice (some a) n c) n vs) (m j : Nat) : w.frozen? ⟨(a.add m).block, (a.add m).off + j, none⟩ = false := by
  rcases h.2 with ⟨h1, _⟩ | ⟨g, cap, cur, h1, h2, h3, _⟩
  · cases h1
  · injection h1 with h1
    injection h1 with h1
    subst h1
    rw [add_zero_lit]
    exact (box_rules h3).2 _
theorem own_blk4 {w : World} {base : Nat} {e : TypeId} {k n c : Nat} {a : Addr} {vs : List Value} (h : w.ownsRow base e k (.slice (some a) n c) n vs) (m : Nat) : base ≤ (a.add m).block ∧ (Value.slice (some a) n c).ownBlock = some (a.add m).block := by
  rcases h.2 with ⟨h1, _⟩ | ⟨g, cap, cur, h1, h2, h3, _⟩
  · cases h1
  · injection h1 with h1
    injection h1 with h1
    subst h1
    rw [add_zero_lit]
    exact ⟨h2, rfl⟩

theorem own_at' {w : World} {base : Nat} {e : TypeId} {k n c : Nat} {a : Addr} {vs : List Value} (h : w.ownsRow base e k (.slice (some a) n c) n vs) (m : Nat) : (⟨(a.add m).block, (a.add m).off + 0, none⟩ : Addr) = a.add m := by
  rcases h.2 with ⟨h1, _⟩ | ⟨g, cap, cur, h1, h2, h3, _⟩
  · cases h1
  · injection h1 with h1
    injection h1 with h1
    subst h1
    rw [add_zero_lit]
    rfl
theorem own_put1 {w : World} {base : Nat} {e : TypeId} {n c : Nat} {a : Addr} {vs : List Value} (h : w.ownsRow base e 1 (.slice (some a) n c) n vs) (j : Nat) (u : Value) : (w.setCell (a.add j) u).ownsRow base e 1 (.slice (some a) n c) n (vs.set j u) := by
  have hp := own_put' h j 0 u
  rw [own_at' h, Nat.add_zero] at hp
  exact hp
theorem own_froz1 {w : World} {base : Nat} {e : TypeId} {n c : Nat} {a : Addr} {vs : List Value} (h : w.ownsRow base e 1 (.slice (some a) n c) n vs) (j : Nat) : w.frozen? (a.add j) = false := by
  have hp := own_froz' h j 0
  rw [own_at' h] at hp
  exact hp
/-- What add keeps. -/
structure RollK (base r : Nat) (W W' : World) : Prop where
  size : W.heap.size ≤ W'.heap.size
  same : ∀ (k : Nat) (o : Obj), W.heap[k]? = some o → k ≠ r → (k < base ∨ ¬ ∃ cs z, o = .cells cs 33 z) → W'.heap[k]? = some o
  low : ∀ nA, nA ≤ r → nA ≤ base → nA ≤ W.heap.size → Below nA W W'
theorem RollK.alloc {base r : Nat} (W : World) (o : Obj) : RollK base r W (W.alloc o) :=
  ⟨by simp, fun k o' h _ _ => box_alloc h o, fun nA _ _ h => (Below.refl _ _).alloc h o⟩
theorem RollK.drewN {base r : Nat} {W W' : World} (h : RollK base r W W') (n : Nat) : RollK base r W (W'.drewN n) := ⟨h.size, h.same, fun nA a b c => bdrewN (h.low nA a b c) n⟩
theorem RollK.drew {base r : Nat} {W W' : World} (h : RollK base r W W') : RollK base r W W'.drew := ⟨h.size, h.same, fun nA a b c => (h.low nA a b c).drew⟩
theorem RollK.row {base r n c : Nat} {a : Addr} {vs : List Value} {W W' : World} (h : RollK base r W W') (ho : W.ownsRow base 33 4 (.slice (some a) n c) n vs) (m j : Nat) (u : Value) : RollK base r W (W'.setCell ⟨(a.add m).block, (a.add m).off + j, none⟩ u) := by
  obtain ⟨b1, b2⟩ := own_blk4 ho m
  obtain ⟨_, _, cur, hcur⟩ := own_blockK ho b2
  refine ⟨by simpa [World.setCell] using h.size, fun k o hk hr hn => ?_, fun nA h1 h2 h3 => (h.low nA h1 h2 h3).setCell (p := ⟨(a.add m).block, (a.add m).off + j, none⟩) (by show nA ≤ (a.add m).block; omega) _⟩
  refine (Below.heap_setCell W' ⟨(a.add m).block, (a.add m).off + j, none⟩ u k (fun e => ?_)).trans (h.same k o hk hr hn)
  have e' : k = (a.add m).block := e
  rcases hn with h4 | h4
  · omega
  · refine h4 ⟨cur, (0, 0), ?_⟩
    rw [e', hcur] at hk
    injection hk with hk
    exact hk.symm
theorem RollK.app {base r n c n' c' : Nat} {P P' : Option Addr} {vs : List Value} {W W1 w3 : World} {o : Obj} (h : RollK base r W W1) (ho : W1.ownsRow base 33 4 (.slice P n c) n vs) (hg : (W1.alloc o).grownBy w3 (Value.slice P n c).ownBlock) :
    RollK base r W (w3.setCell ⟨r, 0, none⟩ (.slice P' n' c')) := by
  have S := grown_step ho hg
  refine ⟨?_, fun k o' hk hr hn => ?_, fun nA h1 h2 h3 => ((S.below (h.low nA h1 h2 h3) h2 (Nat.le_trans h3 h.size))).setCell (p := ⟨r, 0, none⟩) h1 _⟩
  · have := h.size; have := S.size
    simp only [World.setCell, Array.size_modify]
    omega
  · refine (Below.heap_setCell w3 ⟨r, 0, none⟩ _ k hr).trans ?_
    have h1 := h.same k o' hk hr hn
    rcases hn with h4 | h4
    · exact S.low h1 h4
    · refine S.box h1 (fun e => ?_)
      obtain ⟨_, _, cur, hcur⟩ := own_blockK ho e
      rw [h1] at hcur
      injection hcur with hcur
      exact h4 ⟨cur, (0, 0), hcur⟩
/-- What add comes to. -/
def RetAdd (base r : Nat) (l : List Rn) (W : World) (e : Ending) (W' : World) : Prop := e = .returned (.tuple #[]) ∧ ∃ (P : Option Addr) (c : Nat), W'.heap[r]? = some (.cells #[.slice P l.length c] 44 (0, 0)) ∧ W'.ownsRow base 33 4 (.slice P l.length c) l.length (l.flatMap rnc) ∧ RollK base r W W'
set_option maxHeartbeats 4000000 in
set_option maxRecDepth 100000 in
theorem add_any (base r c : Nat) (P : Option Addr) (l : List Rn) (x : Rn) (W : World) (hl : l.length ≤ 1099511627000) (hr : r < base) (hs : base ≤ W.heap.size)
    (hq : W.heap[r]? = some (.cells #[.slice P l.length c] 44 (0, 0))) (ho : W.ownsRow base 33 4 (.slice P l.length c) l.length (l.flatMap rnc)) :
    Calls Tryd.prog 20 #[.pointer (some ⟨r, 0, none⟩), rnv x] W (RetAdd base r (addR l x) W) := by
  obtain ⟨x0, x1, x2, x3⟩ := x
  unfold RetAdd
  unfold rnv
  dsimp only
  by_cases h0 : x2 = x3
  · have HAd := Lib.hid (show addR l ⟨x0, x1, x2, x3⟩ = l from if_pos h0)
    subst h0
    have h9 : (x2 == x2) = true := by simp
    go_enter Tryd.func20, Tryd.ntmps20
    go_upto_region 1 with fail
    refine name_world fun U hU => ?_
    have HX : Hid (U.heap[W.heap.size]? = some (.cells #[.int .u8 x0, .int .i64 x1, .int .i64 x2, .int .i64 x2] 33 (0, 0))) := Lib.hid (by rw [hU]; exact heap_alloc_new _ _)
    have hbu : Below W.heap.size W U := by rw [hU]; exact (Below.refl _ _).alloc (Nat.le_refl _) _
    have HQ := Lib.hid (box_keep hq hbu)
    have HO := Lib.hid (own_belowK ho hbu)
    have HK : Hid (RollK base r W U) := Lib.hid (by rw [hU]; exact RollK.alloc W _)
    have bU : base ≤ U.heap.size := by rw [hU]; simp only [World.size_alloc]; omega
    clear hU hbu hq ho
    obtain ⟨xx, xy⟩ := box_rules HX.out
    obtain ⟨qx, qy⟩ := box_rules HQ.out
    go_wp2
    go_end0
    exact ⟨rfl, P, c, by rw [HAd.out]; exact HQ.out, by rw [HAd.out]; exact HO.out, HK.out⟩
  · have h9 : (x2 == x3) = false := by simpa using h0
    by_cases hn : l.length = 0
    · have HAd := Lib.hid (show addR l ⟨x0, x1, x2, x3⟩ = l ++ [⟨x0, x1, x2, x3⟩] by unfold addR; rw [if_neg h0, if_neg (by omega)])
      have hn1 : decide ((0 : Int) < (l.length : Int)) = false := by simp [hn]
      have hn2 : decide (0 < l.length) = false := by simp [hn]
      clear hn
      go_enter Tryd.func20, Tryd.ntmps20
      go_upto_region 1 with fail
      refine name_world fun U hU => ?_
      have HX : Hid (U.heap[W.heap.size]? = some (.cells #[.int .u8 x0, .int .i64 x1, .int .i64 x2, .int .i64 x3] 33 (0, 0))) := Lib.hid (by rw [hU]; exact heap_alloc_new _ _)
      have hbu : Below W.heap.size W U := by rw [hU]; exact (Below.refl _ _).alloc (Nat.le_refl _) _
      have HQ := Lib.hid (box_keep hq hbu)
      have HO := Lib.hid (own_belowK ho hbu)
      have HK : Hid (RollK base r W U) := Lib.hid (by rw [hU]; exact RollK.alloc W _)
      have bU : base ≤ U.heap.size := by rw [hU]; simp only [World.size_alloc]; omega
      clear hU hbu hq ho
      obtain ⟨xx, xy⟩ := box_rules HX.out
      obtain ⟨qx, qy⟩ := box_rules HQ.out
      go_wp2_with fail
      go_quiet (fail)
      go_upto_region 2 with fail
      refine name_world fun V hV => ?_
      have HXv : Hid (V.heap[W.heap.size]? = some (.cells #[.int .u8 x0, .int .i64 x1, .int .i64 x2, .int .i64 x3] 33 (0, 0))) := Lib.hid (by rw [hV]; exact HX.out)
      have HQv : Hid (V.heap[r]? = some (.cells #[.slice P l.length c] 44 (0, 0))) := Lib.hid (by rw [hV]; exact HQ.out)
      have HOv : Hid (V.ownsRow base 33 4 (.slice P l.length c) l.length (l.flatMap rnc)) := Lib.hid (by rw [hV]; exact HO.out)
      have HKv : Hid (RollK base r W V) := Lib.hid (by rw [hV]; first | exact HK.out | exact HK.out.drew | exact HK.out.drewN _)
      have bV : base ≤ V.heap.size := by rw [hV]; exact bU
      clear hV xx xy qx qy HX HQ HO HK
      obtain ⟨xx, xy⟩ := box_rules HXv.out
      obtain ⟨qx, qy⟩ := box_rules HQv.out
      have rqA : ∀ o, (V.alloc o).cell? ⟨r, 0, none⟩ = some (.slice P l.length c) := fun o => ((box_rules (box_alloc HQv.out o)).1 0).trans rfl
      have rqF : ∀ o, (V.alloc o).frozen? ⟨r, 0, none⟩ = false := fun o => (box_rules (box_alloc HQv.out o)).2 0
      go_region_law ((refine step_appK rfl _ _ sk_rn (by decide) rfl (own_drewK (own_allocK HOv.out _)) rfl (by omega) (by simp only [World.size_alloc, World.size_drew]; omega) V.heap.size [.int .u8 x0, .int .i64 x1, .int .i64 x2, .int .i64 x3] rfl rfl (fun j u hu => new_cell hu) rfl ?_; intro P3 c3 w3 ho3 hg3 _; have HG3 := Lib.hid (grown_undrew hg3); have G3 := Lib.hid (grown_step HOv.out HG3.out); have HQ3 := Lib.hid (G3.out.low HQv.out (by omega)); have HO3 := Lib.hid ho3; clear ho3 hg3; obtain ⟨hqx3, hqy3⟩ := box_rules HQ3.out))
      all_goals
        go_wp2
        go_end0
        refine ⟨rfl, P3, c3, ?_, ?_, ?_⟩
        · rw [HAd.out, List.length_append]; exact box_set (i := 0) HQ3.out _
        · rw [HAd.out, List.length_append, List.flatMap_append]; exact own_setK HO3.out (own_low HO3.out (by show r < base; omega)) _
        · exact HKv.out.app HOv.out HG3.out
    · obtain ⟨m, hm⟩ : ∃ m, l.length = m + 1 := ⟨l.length - 1, by omega⟩
      obtain ⟨a, y, rfl, hy, -, -, -, -⟩ := (own_rdK ho).rnAt (k := m) (by omega)
      have hAd0 : addR l ⟨x0, x1, x2, x3⟩ = if y.kind = x0 ∧ y.who = x1 then l.set m { y with tt := x3 } else l ++ [⟨x0, x1, x2, x3⟩] := by
        unfold addR
        rw [if_neg h0, show l.length - 1 = m by omega, hy]
        by_cases hs : y.kind = x0 ∧ y.who = x1
        · rw [if_pos ⟨by omega, hs⟩, if_pos hs]
        · rw [if_neg (fun h => hs h.2), if_neg hs]
      have HAd0 := Lib.hid hAd0
      have HOW := Lib.hid ho
      have Hm := Lib.hid hm
      have hn1 : decide ((0 : Int) < (l.length : Int)) = true := by simp; omega
      have hn2 : decide (0 < l.length) = true := by simp; omega
      have hn3 : (0 : Int) < (l.length : Int) := by omega
      have e1 : IntKind.i64.wrap ((l.length : Int) - 1) = (m : Int) := by rw [IntWalk.i64_in _ (by omega)]; omega
      have e2 : (l.length : Int) - 1 = (m : Int) := by omega
      have e3 : IntKind.i64.wrap (m : Int) = (m : Int) := IntWalk.i64_in _ (by omega)
      have i1 : (0 : Int) ≤ (m : Int) := by omega
      have i2 : (m : Int) < (l.length : Int) := by omega
      clear hm hn hAd0
      go_enter Tryd.func20, Tryd.ntmps20
      go_upto_region 1 with fail
      refine name_world fun U hU => ?_
      have HX : Hid (U.heap[W.heap.size]? = some (.cells #[.int .u8 x0, .int .i64 x1, .int .i64 x2, .int .i64 x3] 33 (0, 0))) := Lib.hid (by rw [hU]; exact heap_alloc_new _ _)
      have hbu : Below W.heap.size W U := by rw [hU]; exact (Below.refl _ _).alloc (Nat.le_refl _) _
      have HQ := Lib.hid (box_keep hq hbu)
      have HO := Lib.hid (own_belowK ho hbu)
      have HK : Hid (RollK base r W U) := Lib.hid (by rw [hU]; exact RollK.alloc W _)
      have bU : base ≤ U.heap.size := by rw [hU]; simp only [World.size_alloc]; omega
      clear hU hbu hq ho
      obtain ⟨xx, xy⟩ := box_rules HX.out
      obtain ⟨qx, qy⟩ := box_rules HQ.out
      obtain ⟨a', y', ha, hy', y0, y1, y2, y3⟩ := (own_rdK HO.out).rnAt (k := m) (by omega)
      cases ha
      obtain rfl : y = y' := hy.symm.trans hy'
      have Hy := Lib.hid hy
      clear hy hy'
      obtain ⟨q0, q1, q2, q3⟩ := y
      dsimp only at *
      go_wp2_with fail
      by_cases s0 : q0 = x0
      · subst s0
        have t0 : (q0 == q0) = true := by simp
        by_cases s1 : q1 = x1
        · subst s1
          have t1 : (q1 == q1) = true := by simp
          have HAd : Hid (addR l ⟨q0, q1, x2, x3⟩ = l.set m ⟨q0, q1, q2, x3⟩) := Lib.hid (by rw [HAd0.out, if_pos ⟨rfl, rfl⟩])
          clear HAd0
          go_quiet (fail)
          go_upto_region 5 with fail
          refine name_world fun V hV => ?_
          have HXv : Hid (V.heap[W.heap.size]? = some (.cells #[.int .u8 q0, .int .i64 q1, .int .i64 x2, .int .i64 x3] 33 (0, 0))) := Lib.hid (by rw [hV]; exact HX.out)
          have HQv : Hid (V.heap[r]? = some (.cells #[.slice (some a) l.length c] 44 (0, 0))) := Lib.hid (by rw [hV]; exact HQ.out)
          have HOv : Hid (V.ownsRow base 33 4 (.slice (some a) l.length c) l.length (l.flatMap rnc)) := Lib.hid (by rw [hV]; exact HO.out)
          have HKv : Hid (RollK base r W V) := Lib.hid (by rw [hV]; first | exact HK.out | exact HK.out.drew | exact HK.out.drewN _)
          have bV : base ≤ V.heap.size := by rw [hV]; exact bU
          clear hV xx xy qx qy HX HQ HO HK
          obtain ⟨xx, xy⟩ := box_rules HXv.out
          obtain ⟨qx, qy⟩ := box_rules HQv.out
          have rqA : ∀ o, (V.alloc o).cell? ⟨r, 0, none⟩ = some (.slice (some a) l.length c) := fun o => ((box_rules (box_alloc HQv.out o)).1 0).trans rfl
          have rqF : ∀ o, (V.alloc o).frozen? ⟨r, 0, none⟩ = false := fun o => (box_rules (box_alloc HQv.out o)).2 0
          have fz := own_froz' HOv.out (m * 4) 3
          obtain ⟨a2, y2', ha2, -, -, -, -, y3v⟩ := (own_rdK HOv.out).rnAt (k := m) (by rw [Hm.out]; omega)
          cases ha2
          have HP := Lib.hid (own_put' HOv.out (m * 4) 3 (.int .i64 x3))
          have HPq := Lib.hid ((show Below base V (V.setCell ⟨(a.add (m * 4)).block, (a.add (m * 4)).off + 3, none⟩ (.int .i64 x3)) from (Below.refl _ _).setCell (p := ⟨(a.add (m * 4)).block, (a.add (m * 4)).off + 3, none⟩) (own_blk4 HOv.out (m * 4)).1 _).block r hr |>.trans HQv.out)
          have HF : Hid ((l.flatMap rnc).set (m * 4 + 3) (.int .i64 x3) = (l.set m ⟨q0, q1, q2, x3⟩).flatMap rnc) := Lib.hid (flat_set4 (f := rnc) (d := rn0) (fun _ => rfl) l m 3 ⟨q0, q1, q2, x3⟩ (.int .i64 x3) (by rw [Hm.out]; omega) (by decide) (by rw [Hy.out]; rfl))
          refine still_tailD 10 (by kernel_rfl) (by kernel_rfl) ?_
          simp only [List.take_succ_cons, List.take_zero, List.drop_succ_cons, List.drop_zero]
          repeat still_step
          refine wpStill_nil ?_
          go_wp2_with fail
          go_end0
          refine ⟨rfl, some a, c, ?_, ?_, ?_⟩
          · rw [HAd.out, List.length_set]; exact HPq.out
          · rw [HAd.out, List.length_set, ← HF.out]; exact own_drewK HP.out
          · exact (HKv.out.row HOW.out (m * 4) 3 (.int .i64 x3)).drew
        · have t1 : (q1 == x1) = false := by simpa using s1
          have HAd : Hid (addR l ⟨q0, x1, x2, x3⟩ = l ++ [⟨q0, x1, x2, x3⟩]) := Lib.hid (by rw [HAd0.out, if_neg (fun h => s1 h.2)])
          clear HAd0 s1
          go_quiet (fail)
          go_upto_region 2 with fail
          refine name_world fun V hV => ?_
          have HXv : Hid (V.heap[W.heap.size]? = some (.cells #[.int .u8 q0, .int .i64 x1, .int .i64 x2, .int .i64 x3] 33 (0, 0))) := Lib.hid (by rw [hV]; exact HX.out)
          have HQv : Hid (V.heap[r]? = some (.cells #[.slice (some a) l.length c] 44 (0, 0))) := Lib.hid (by rw [hV]; exact HQ.out)
          have HOv : Hid (V.ownsRow base 33 4 (.slice (some a) l.length c) l.length (l.flatMap rnc)) := Lib.hid (by rw [hV]; exact HO.out)
          have HKv : Hid (RollK base r W V) := Lib.hid (by rw [hV]; first | exact HK.out | exact HK.out.drew | exact HK.out.drewN _)
          have bV : base ≤ V.heap.size := by rw [hV]; exact bU
          clear hV xx xy qx qy HX HQ HO HK
          obtain ⟨xx, xy⟩ := box_rules HXv.out
          obtain ⟨qx, qy⟩ := box_rules HQv.out
          have rqA : ∀ o, (V.alloc o).cell? ⟨r, 0, none⟩ = some (.slice (some a) l.length c) := fun o => ((box_rules (box_alloc HQv.out o)).1 0).trans rfl
          have rqF : ∀ o, (V.alloc o).frozen? ⟨r, 0, none⟩ = false := fun o => (box_rules (box_alloc HQv.out o)).2 0
          go_region_law ((refine step_appK rfl _ _ sk_rn (by decide) rfl (own_drewK (own_allocK HOv.out _)) rfl (by omega) (by simp only [World.size_alloc, World.size_drew]; omega) V.heap.size [.int .u8 q0, .int .i64 x1, .int .i64 x2, .int .i64 x3] rfl rfl (fun j u hu => new_cell hu) rfl ?_; intro P3 c3 w3 ho3 hg3 _; have HG3 := Lib.hid (grown_undrew hg3); have G3 := Lib.hid (grown_step HOv.out HG3.out); have HQ3 := Lib.hid (G3.out.low HQv.out (by omega)); have HO3 := Lib.hid ho3; clear ho3 hg3; obtain ⟨hqx3, hqy3⟩ := box_rules HQ3.out))
          all_goals
            go_wp2
            go_end0
            refine ⟨rfl, P3, c3, ?_, ?_, ?_⟩
            · rw [HAd.out, List.length_append]; exact box_set (i := 0) HQ3.out _
            · rw [HAd.out, List.length_append, List.flatMap_append]; exact own_setK HO3.out (own_low HO3.out (by show r < base; omega)) _
            · exact HKv.out.app HOv.out HG3.out
      · have t0 : (q0 == x0) = false := by simpa using s0
        have HAd : Hid (addR l ⟨x0, x1, x2, x3⟩ = l ++ [⟨x0, x1, x2, x3⟩]) := Lib.hid (by rw [HAd0.out, if_neg (fun h => s0 h.1)])
        clear HAd0 s0
        go_quiet (fail)
        go_upto_region 2 with fail
        refine name_world fun V hV => ?_
        have HXv : Hid (V.heap[W.heap.size]? = some (.cells #[.int .u8 x0, .int .i64 x1, .int .i64 x2, .int .i64 x3] 33 (0, 0))) := Lib.hid (by rw [hV]; exact HX.out)
        have HQv : Hid (V.heap[r]? = some (.cells #[.slice (some a) l.length c] 44 (0, 0))) := Lib.hid (by rw [hV]; exact HQ.out)
        have HOv : Hid (V.ownsRow base 33 4 (.slice (some a) l.length c) l.length (l.flatMap rnc)) := Lib.hid (by rw [hV]; exact HO.out)
        have HKv : Hid (RollK base r W V) := Lib.hid (by rw [hV]; first | exact HK.out | exact HK.out.drew | exact HK.out.drewN _)
        have bV : base ≤ V.heap.size := by rw [hV]; exact bU
        clear hV xx xy qx qy HX HQ HO HK
        obtain ⟨xx, xy⟩ := box_rules HXv.out
        obtain ⟨qx, qy⟩ := box_rules HQv.out
        have rqA : ∀ o, (V.alloc o).cell? ⟨r, 0, none⟩ = some (.slice (some a) l.length c) := fun o => ((box_rules (box_alloc HQv.out o)).1 0).trans rfl
        have rqF : ∀ o, (V.alloc o).frozen? ⟨r, 0, none⟩ = false := fun o => (box_rules (box_alloc HQv.out o)).2 0
        go_region_law ((refine step_appK rfl _ _ sk_rn (by decide) rfl (own_drewK (own_allocK HOv.out _)) rfl (by omega) (by simp only [World.size_alloc, World.size_drew]; omega) V.heap.size [.int .u8 x0, .int .i64 x1, .int .i64 x2, .int .i64 x3] rfl rfl (fun j u hu => new_cell hu) rfl ?_; intro P3 c3 w3 ho3 hg3 _; have HG3 := Lib.hid (grown_undrew hg3); have G3 := Lib.hid (grown_step HOv.out HG3.out); have HQ3 := Lib.hid (G3.out.low HQv.out (by omega)); have HO3 := Lib.hid ho3; clear ho3 hg3; obtain ⟨hqx3, hqy3⟩ := box_rules HQ3.out))
        all_goals
          go_wp2
          go_end0
          refine ⟨rfl, P3, c3, ?_, ?_, ?_⟩
          · rw [HAd.out, List.length_append]; exact box_set (i := 0) HQ3.out _
          · rw [HAd.out, List.length_append, List.flatMap_append]; exact own_setK HO3.out (own_low HO3.out (by show r < base; omega)) _
          · exact HKv.out.app HOv.out HG3.out
end Go.Proofs.YtlmhgfgdkenpfaaDoor

/- Package irq: the walks of Raise, mask. Conditions: lines' memory. -/
import Derived.Test.YtpncbkodhojicaaDoorQaQIc
import Derived.Deep.RegionHeld3
namespace Go.Proofs.YtpncbkodhojicaaDoor
open Go.RowKit Go.Shelf
variable {Bs : Nat → Prop}
attribute [local go_sem] Oper.semAt_some
theorem asc_len : ∀ (l : List Int) (a : Int), l.Pairwise (· < ·) → (∀ x ∈ l, a ≤ x ∧ x ≤ 15) → (l.length : Int) ≤ max 0 (16 - a)
  | [], a, _, _ => by simp; omega
  | x :: l, a, hp, h => by
    have h1 := h x (List.mem_cons_self ..)
    have ih := asc_len l (x + 1) (List.pairwise_cons.1 hp).2 fun y hy => ⟨by have := (List.pairwise_cons.1 hp).1 y hy; omega, (h y (List.mem_cons_of_mem _ hy)).2⟩
    rw [List.length_cons]
    omega
theorem QI.blen {n : Nat} {s : Qs} (h : QI n s) : s.bs.length ≤ 15 := by
  have := asc_len (s.bs.map fun b => s.pr b.line) 1 h.bsort fun x hx => by
    obtain ⟨b, hb, rfl⟩ := List.mem_map.1 hx
    exact (h.line (h.bline b hb)).prio
  rw [List.length_map] at this
  omega
theorem QI.fits {n : Nat} {s : Qs} (h : QI n s) : (qIC s).Fits := qIC_fits h (by have := h.blen; omega)
/-- What a call on lines leaves. -/
def RetIq (Bs : Nat → Prop) (f : IqF) (s s' : Qs) (v : Value) (w : World) (e : Ending) (w' : World) : Prop := e = .returned v ∧ ∃ f' : IqF, f'.p = f.p ∧ IqM Bs w' f' s' ∧ (∀ k ∈ qL f' s', k ∈ qL f s ∨ w.heap.size ≤ k) ∧ Tn (qL f s) w w'
theorem RetIq.same {f : IqF} {s : Qs} {v : Value} {w : World} (h : IqM Bs w f s) : RetIq Bs f s s v w (.returned v) w := ⟨rfl, f, rfl, h, fun _ hk => .inl hk, Tn.refl _ _⟩
theorem set7 {U : World} {b : Nat} {t : TypeId} {c0 c1 c2 c3 c4 c5 c6 c7 c8 c9 c10 : Value} (h : U.heap[b]? = some (.cells #[c0, c1, c2, c3, c4, c5, c6, c7, c8, c9, c10] t (0, 0))) (v0 v1 v2 v3 v4 v5 v6 : Value) :
    (((((((U.setCell ⟨b, 0, none⟩ v0).setCell ⟨b, 1, none⟩ v1).setCell ⟨b, 2, none⟩ v2).setCell ⟨b, 3, none⟩ v3).setCell ⟨b, 4, none⟩ v4).setCell ⟨b, 5, none⟩ v5).setCell ⟨b, 6, none⟩ v6).heap[b]? = some (.cells #[v0, v1, v2, v3, v4, v5, v6, c7, c8, c9, c10] t (0, 0)) ∧ Tn [b] U (((((((U.setCell ⟨b, 0, none⟩ v0).setCell ⟨b, 1, none⟩ v1).setCell ⟨b, 2, none⟩ v2).setCell ⟨b, 3, none⟩ v3).setCell ⟨b, 4, none⟩ v4).setCell ⟨b, 5, none⟩ v5).setCell ⟨b, 6, none⟩ v6) := by
  have hm : b ∈ [b] := by simp
  have h0 := box_set (i := 0) h v0
  simp only [List.setIfInBounds_toArray, List.set_cons_zero] at h0
  have h1 := box_set (i := 1) h0 v1
  simp only [List.setIfInBounds_toArray, List.set_cons_zero, List.set_cons_succ] at h1
  have h2 := box_set (i := 2) h1 v2
  simp only [List.setIfInBounds_toArray, List.set_cons_zero, List.set_cons_succ] at h2
  have h3 := box_set (i := 3) h2 v3
  simp only [List.setIfInBounds_toArray, List.set_cons_zero, List.set_cons_succ] at h3
  have h4 := box_set (i := 4) h3 v4
  simp only [List.setIfInBounds_toArray, List.set_cons_zero, List.set_cons_succ] at h4
  have h5 := box_set (i := 5) h4 v5
  simp only [List.setIfInBounds_toArray, List.set_cons_zero, List.set_cons_succ] at h5
  have h6 := box_set (i := 6) h5 v6
  simp only [List.setIfInBounds_toArray, List.set_cons_zero, List.set_cons_succ] at h6
  exact ⟨h6, ((((((((Tn.refl [b] U).setCell (p := ⟨b, 0, none⟩) hm _).setCell (p := ⟨b, 1, none⟩) hm _).setCell (p := ⟨b, 2, none⟩) hm _).setCell (p := ⟨b, 3, none⟩) hm _).setCell (p := ⟨b, 4, none⟩) hm _).setCell (p := ⟨b, 5, none⟩) hm _).setCell (p := ⟨b, 6, none⟩) hm _)⟩
set_option maxHeartbeats 4000000 in
set_option maxRecDepth 100000 in
theorem iraise_bad (f : IqF) (s : Qs) (line top bottom : Int) (w : World) (h : IqM Bs w f s) (hc : raiseC s line top bottom = 1) :
    Calls Tryd.prog 19 #[.pointer (some ⟨f.p, 0, none⟩), .int .i64 line, .int .i64 top, .int .i64 bottom] w (RetIq Bs f s (raiseS s line top bottom) (.int .i64 (raiseC s line top bottom)) w) := by
  have hs : raiseS s line top bottom = s := by unfold raiseS; rw [hc]; rfl
  rw [hs, hc]
  clear hs
  have H := Lib.hid h
  by_cases hi : 0 ≤ line ∧ line < s.ls.length
  · have hb : ¬ (1 ≤ top ∧ top ≤ 1099511627776 ∧ 0 ≤ bottom ∧ bottom ≤ 1099511627776) := fun h9 => by
      unfold raiseC at hc
      rw [if_pos ⟨hi.1, hi.2, h9⟩] at hc
      split at hc <;> omega
    obtain ⟨i, rfl⟩ := Int.eq_ofNat_of_zero_le hi.1
    obtain ⟨g, hg, _⟩ := own_headK (h.choose_spec.choose_spec.choose_spec.choose_spec.ll) (by omega)
    have fF := Lib.hid (ifind_in f s i g w h (by omega) hg)
    clear h hi hc hg
    by_cases q1 : top < 1
    · have zt1 : decide (top < 1) = true := decide_eq_true q1
      clear hb
      go_enter Tryd.func19, Tryd.ntmps19
      go_wp2_with (go_at_call 36; (with_reducible refine fF.out.mono ?_); rintro e w1 ⟨rfl, rfl⟩)
      go_ret
      exact RetIq.same H.out
    · by_cases q2 : 1099511627776 < top
      · have zt1 : decide (top < 1) = false := decide_eq_false q1
        have zt2 : decide (1099511627776 < top) = true := decide_eq_true q2
        clear hb
        go_enter Tryd.func19, Tryd.ntmps19
        go_wp2_with (go_at_call 36; (with_reducible refine fF.out.mono ?_); rintro e w1 ⟨rfl, rfl⟩)
        go_ret
        exact RetIq.same H.out
      · by_cases q3 : bottom < 0
        · have zt1 : decide (top < 1) = false := decide_eq_false q1
          have zt2 : decide (1099511627776 < top) = false := decide_eq_false q2
          have zb1 : decide (bottom < 0) = true := decide_eq_true q3
          clear hb
          go_enter Tryd.func19, Tryd.ntmps19
          go_wp2_with (go_at_call 36; (with_reducible refine fF.out.mono ?_); rintro e w1 ⟨rfl, rfl⟩)
          go_ret
          exact RetIq.same H.out
        · have zt1 : decide (top < 1) = false := decide_eq_false q1
          have zt2 : decide (1099511627776 < top) = false := decide_eq_false q2
          have zb1 : decide (bottom < 0) = false := decide_eq_false q3
          have zb2 : decide (1099511627776 < bottom) = true := decide_eq_true (by omega)
          have q4 : 1099511627776 < bottom := by omega
          clear hb
          go_enter Tryd.func19, Tryd.ntmps19
          go_wp2_with (go_at_call 36; (with_reducible refine fF.out.mono ?_); rintro e w1 ⟨rfl, rfl⟩)
          go_ret
          exact RetIq.same H.out
  · have fF := Lib.hid (ifind_out f s line w h hi)
    clear h hi hc
    go_enter Tryd.func19, Tryd.ntmps19
    go_wp2_with (go_at_call 36; (with_reducible refine fF.out.mono ?_); rintro e w1 ⟨rfl, rfl⟩)
    go_ret
    exact RetIq.same H.out
section
variable {w w' : World} {f : IqF} {s : Qs} {pA : Option Addr} {pc : Nat} {tA : Option Addr} {tc : Nat}
/-- A line's cells, its row's block known. -/
theorem IqR.lineg (h : IqR Bs w f s pA pc tA tc) {i g : Nat} (hi : i < s.ls.length) (hg : f.lA = some ⟨g, 0, none⟩) : g ≠ f.p ∧
    w.cell? ⟨g, i * 5, none⟩ = some (.pointer (some ⟨(s.ln i).mb, 0, none⟩)) ∧ w.cell? ⟨g, i * 5 + 1, none⟩ = some (.int .i64 (s.ln i).top) ∧ w.cell? ⟨g, i * 5 + 2, none⟩ = some (.int .i64 (s.ln i).bottom) ∧ w.cell? ⟨g, i * 5 + 3, none⟩ = some (.int .i64 (s.ln i).lost) ∧ w.cell? ⟨g, i * 5 + 4, none⟩ = some (.int .i64 (s.ln i).served) ∧ (∀ j, w.frozen? ⟨g, j, none⟩ = false) ∧ g < w.heap.size := by
  obtain ⟨g', hg', h1⟩ := h.line hi
  rw [hg] at hg'
  cases hg'
  exact h1
theorem IqR.gmem (_ : IqR Bs w f s pA pc tA tc) {g : Nat} (hg : f.lA = some ⟨g, 0, none⟩) : g ∈ qL f s ∧ f.p ∈ qL f s := ⟨mem_qL.2 (.inr (.inl ⟨_, hg, rfl⟩)), mem_qL.2 (.inl rfl)⟩
theorem nodup_ne {α : Type} {l : List α} (h : l.Nodup) {i j : Nat} (hi : i < l.length) (hj : j < l.length) (hne : i ≠ j) : l[i] ≠ l[j] := by
  rcases Nat.lt_or_gt_of_ne hne with h1 | h1
  · exact (List.pairwise_iff_getElem.1 h) i j hi hj h1
  · exact ((List.pairwise_iff_getElem.1 h) j i hj hi h1).symm
/-- The mask of another line lies elsewhere. -/
theorem IqR.other (h : IqR Bs w f s pA pc tA tc) {i j : Nat} (hi : i < s.ls.length) (hj : j < s.ls.length) (hne : j ≠ i) : (s.ln j).mb ≠ (s.ln i).mb ∧ (s.ln j).mg ≠ (s.ln i).mg ∧ (s.ln j).mb ≠ (s.ln i).mg ∧ (s.ln j).mg ≠ (s.ln i).mb := by
  have h1 := nodup_ne h.nb (i := j) (j := i) (by rw [List.length_map]; exact hj) (by rw [List.length_map]; exact hi) hne
  have h2 := nodup_ne h.ng (i := j) (j := i) (by rw [List.length_map]; exact hj) (by rw [List.length_map]; exact hi) hne
  rw [List.getElem_map, List.getElem_map, ← ln_get hj, ← ln_get hi] at h1 h2
  obtain ⟨_, _, _, _, _, _, _, m1⟩ := h.ms _ (ln_mem hj)
  obtain ⟨_, _, _, _, _, _, _, m2⟩ := h.ms _ (ln_mem hi)
  have key : ∀ {k : Nat} {cs cs' : Array Value} {t t' : TypeId}, w.heap[k]? = some (.cells cs t (0, 0)) → w.heap[k]? = some (.cells cs' t' (0, 0)) → t = t' := fun a b => by
    rw [a] at b; injection b with b; injection b
  exact ⟨h1, h2, fun e => absurd (key (e ▸ m1.box) m2.rng) (by decide), fun e => absurd (key (e ▸ m1.rng) m2.box) (by decide)⟩
/-- One line turns, and what the box says of it. -/
theorem IqR.put {F : List Nat} (h : IqR Bs w f s pA pc tA tc) {i : Nat} (hi : i < s.ls.length) {x : Lq} (h1 : x.mb = (s.ln i).mb) (h2 : x.mg = (s.ln i).mg) (ht : Tn F w w') (hF : ∀ k ∈ F, k = f.p ∨ (∃ a, f.lA = some a ∧ a.block = k) ∨ k = x.mb ∨ k = x.mg)
    {pA' : Option Addr} {pc' : Nat} {tA' : Option Addr} {tc' : Nat}
    (box : w'.heap[f.p]? = some (.cells #[.int .u64 (qIC (s.put i x)).p, .int .u64 (qIC (s.put i x)).e, .int .u64 (qIC (s.put i x)).r, .int .u64 (qIC (s.put i x)).g, .slice pA' (qIC (s.put i x)).prio.length pc', .int .i64 (qIC (s.put i x)).t, .slice tA' (qIC (s.put i x)).stack.length tc', .slice f.lA s.ls.length f.lc, .slice f.sA s.bs.length f.sc, .int .u64 (mB (s.put i x)), .int .i64 s.last] 72 (0, 0)))
    (rp : Rd w' pA' ((qIC (s.put i x)).prio.map (.int .i64))) (rt : Rd w' tA' ((qIC (s.put i x)).stack.map (.int .i64)))
    (op : ∀ a, pA' = some a → a.block ∉ qL f s) (ot : ∀ a, tA' = some a → s.bs ≠ [] → a.block ∉ qL f s) (hp0 : 1 ≤ (qIC (s.put i x)).prio.length)
    (ll : w'.ownsRow 0 77 5 (.slice f.lA s.ls.length f.lc) s.ls.length ((s.put i x).ls.flatMap lmc)) (mx : MkR w' s.last x) (bp : ∀ a, pA' = some a → ¬ Bs a.block) (bt : ∀ a, tA' = some a → s.bs ≠ [] → ¬ Bs a.block) : IqR Bs w' f (s.put i x) pA' pc' tA' tc' := by
  have ha := h.apart (ln_mem hi)
  have hr := h.rows
  refine h.upd (s' := s.put i x) (put_qL hi h1 h2) (by rw [put_len]; exact box) rp rt op ot hp0 (by rw [put_len]; exact ll) ?_ ?_ (put_map (·.mb) hi h1) (put_map (·.mg) hi h2) bp bt ht.size
  · show w'.ownsRow 0 92 3 (.slice f.sA s.bs.length f.sc) s.bs.length (s.bs.flatMap bqc)
    refine own_keptK h.sl fun g hg => ?_
    obtain ⟨_, hlt, _⟩ := own_blockK h.sl hg
    refine ht.block g hlt fun hm => ?_
    cases hs : f.sA with
    | none => rw [hs] at hg; cases hg
    | some a =>
      have hga : a.block = g := by rw [hs] at hg; injection hg
      rcases hF g hm with rfl | ⟨b, hb, rfl⟩ | rfl | rfl
      · exact hr.2.1 a hs hga
      · exact hr.2.2 b a hb hs hga.symm
      · rw [h1] at hga; exact (ha.2.2 a hs).1 hga.symm
      · rw [h2] at hga; exact (ha.2.2 a hs).2 hga.symm
  · intro y hy
    obtain ⟨j, hj, rfl⟩ := List.getElem_of_mem hy
    rw [put_len] at hj
    have e1 := put_ln (s := s) (x := x) hi j
    rw [ln_get (by rw [put_len]; exact hj)] at e1
    rw [e1]
    by_cases hji : j = i
    · rw [if_pos hji]; exact mx
    · rw [if_neg hji]
      obtain ⟨o1, o2, o3, o4⟩ := h.other hi hj hji
      have hb := h.apart (ln_mem hj)
      refine (h.ms _ (ln_mem hj)).tn ht (fun hm => ?_) (fun hm => ?_) (Int.le_refl _)
      · rcases hF _ hm with e | ⟨b, q, e⟩ | e | e
        · exact hb.1.1 e
        · exact (hb.2.1 b q).1 e.symm
        · rw [h1] at e; exact o1 e
        · rw [h2] at e; exact o3 e
      · rcases hF _ hm with e | ⟨b, q, e⟩ | e | e
        · exact hb.1.2 e
        · exact (hb.2.1 b q).2 e.symm
        · rw [h1] at e; exact o4 e
        · rw [h2] at e; exact o2 e
theorem own_tnq {w w' : World} {base n k : Nat} {e : TypeId} {v : Value} {vs : List Value} {F : List Nat} (h : w.ownsRow base e k v n vs) (ht : Tn F w w') (hF : ∀ b, v.ownBlock = some b → b ∉ F) : w'.ownsRow base e k v n vs :=
  own_keptK h fun g hg => ht.block g (own_blockK h hg).2.1 (hF g hg)
/-- A store into a line's cell. -/
theorem line_set {g : Nat} {lc : Nat} {l : List Lq} {i j : Nat} {x : Lq} {v : Value} (h : w.ownsRow 0 77 5 (.slice (some ⟨g, 0, none⟩) l.length lc) l.length (l.flatMap lmc)) (hi : i < l.length) (hj : j < 5) (hx : lmc x = (lmc (l.getD i lq0)).set j v) :
    (w.setCell ⟨g, i * 5 + j, none⟩ v).ownsRow 0 77 5 (.slice (some ⟨g, 0, none⟩) l.length lc) l.length ((l.set i x).flatMap lmc) := by
  rw [← flat_set (f := lmc) (fun _ => rfl) (d := lq0) l i j x v hi hj hx]
  exact own_cellq h _ v
end
/-- Two stores into a line's cells. -/
theorem line_set2 {w : World} {g : Nat} {lc : Nat} {l : List Lq} {i j j' : Nat} {x1 x : Lq} {v v' : Value} (h : w.ownsRow 0 77 5 (.slice (some ⟨g, 0, none⟩) l.length lc) l.length (l.flatMap lmc)) (hi : i < l.length) (hj : j < 5) (hj' : j' < 5) (h1 : lmc x1 = (lmc (l.getD i lq0)).set j v) (h2 : lmc x = (lmc x1).set j' v') :
    ((w.setCell ⟨g, i * 5 + j, none⟩ v).setCell ⟨g, i * 5 + j', none⟩ v').ownsRow 0 77 5 (.slice (some ⟨g, 0, none⟩) l.length lc) l.length ((l.set i x).flatMap lmc) := by
  have a1 := line_set h hi hj h1
  have hl : (l.set i x1).length = l.length := List.length_set
  have a2 := line_set (l := l.set i x1) (lc := lc) (x := x) (v := v') (by rw [hl]; exact a1) (by rw [hl]; exact hi) hj' (by
    rw [h2]
    congr 1
    rw [List.getD_eq_getElem?_getD, List.getElem?_set_self hi]
    rfl)
  rw [hl, List.set_set] at a2
  exact a2
theorem mB_put {s : Qs} {i : Nat} {x : Lq} (hi : i < s.ls.length) (hx : x.masked = (s.ln i).masked) : mB (s.put i x) = mB s := by
  unfold mB
  refine mk_congr fun j hj => ?_
  rw [put_len, put_ln hi]
  by_cases hji : j = i
  · subst hji; rw [if_pos rfl, hx]
  · rw [if_neg hji]
set_option maxHeartbeats 8000000 in
set_option maxRecDepth 100000 in
theorem iraise_twice (f : IqF) (s : Qs) (n : Nat) (i : Nat) (top bottom : Int) (w : World) (h : IqM Bs w f s) (hI : QI n s) (hi : i < s.ls.length) (hr : (1 ≤ top ∧ top ≤ 1099511627776) ∧ 0 ≤ bottom ∧ bottom ≤ 1099511627776) (hn : n ≤ 1048576) (hpe : (s.ln i).pending = true) :
    Calls Tryd.prog 19 #[.pointer (some ⟨f.p, 0, none⟩), .int .i64 i, .int .i64 top, .int .i64 bottom] w (RetIq Bs f s (s.put i { s.ln i with lost := (s.ln i).lost + 1 }) (.int .i64 4) w) := by
  have H := Lib.hid h
  have HI := Lib.hid hI
  obtain ⟨pA, pc, tA, tc, hR⟩ := h
  obtain ⟨g, hg, hgp, _⟩ := hR.line hi
  have fF := Lib.hid (ifind_in f s i g w H.out hi hg)
  have fI := Lib.hid (raise_any (qIC s) hI.fits pA pc tA tc (i : Int) w hR.rp hR.rt)
  rw [q_raise hI hi, if_pos hpe] at fI
  unfold RetI icv at fI
  dsimp only at fI
  have HR := Lib.hid hR
  have HG := Lib.hid hg
  have HP0 : Hid (1 ≤ (qIC s).prio.length) := Lib.hid (qIC_ok hI).len1
  have hlo := (hI.line hi).lost
  have hlo2 : -9223372036854775808 ≤ (s.ln i).lost + 1 ∧ (s.ln i).lost + 1 ≤ 9223372036854775807 := by omega
  have zt1 : decide (top < 1) = false := decide_eq_false (by omega)
  have zt2 : decide (1099511627776 < top) = false := decide_eq_false (by omega)
  have zb1 : decide (bottom < 0) = false := decide_eq_false (by omega)
  have zb2 : decide (1099511627776 < bottom) = false := decide_eq_false (by omega)
  have q1 : ¬ top < 1 := by omega
  have q2 : ¬ 1099511627776 < top := by omega
  have q3 : ¬ bottom < 0 := by omega
  have q4 : ¬ 1099511627776 < bottom := by omega
  have HPe := Lib.hid hpe
  have HIi := Lib.hid hi
  obtain ⟨x, y⟩ := box_rules hR.box
  have l := box_lt hR.box
  clear hR hI hg hr hpe hi hn
  go_enter Tryd.func19, Tryd.ntmps19
  go_upto_region 5 with (first
    | (go_at_call 36; (with_reducible refine fF.out.mono ?_); rintro e w1 ⟨rfl, rfl⟩)
    | (go_at_call 37; (with_reducible refine fI.out.mono ?_); rintro e w1 ⟨pA', pc', sA', sc', rfl, hp1, hs1, hb1, hn1⟩; have HB1 := Lib.hid hb1; clear hp1 hs1 hb1 hn1))
  refine name_world fun U hU => ?_
  have hbU : Below w1.heap.size w1 U := by rw [hU]; exact (Below.refl _ _).alloc (Nat.le_refl _) _
  have HRU := Lib.hid ((HR.out.below HB1.out).below hbU)
  have HBU := Lib.hid (HB1.out.trans (hbU.mono HB1.out.size))
  clear hU hbU x y l
  obtain ⟨_, _, c1, c2, c3, c4, fz, lg⟩ := HRU.out.lineg HIi.out HG.out
  obtain ⟨lost', hlost⟩ : ∃ v, (s.ln i).lost + 1 = v := ⟨_, rfl⟩
  have e1 : wrap64 ((s.ln i).lost + 1) = lost' := by rw [hlost]; exact Go.IntWalk.wrap64_in _ (by omega)
  have HLo := Lib.hid hlost
  clear hlost hlo hlo2
  go_wp2
  go_ret
  rw [HLo.out]
  have hgm : g ∈ [g] := by simp
  have hT : Tn [g] U (U.setCell ⟨g, i * 5 + 3, none⟩ (.int .i64 lost')) := (Tn.refl _ _).setCell (p := ⟨g, i * 5 + 3, none⟩) hgm _
  have hll := HRU.out.ll
  rw [HG.out] at hll
  have hms := HRU.out.ms _ (ln_mem HIi.out)
  have hap := HRU.out.apart (ln_mem HIi.out)
  have hmg := (hap.2.1 _ HG.out)
  refine ⟨rfl, f, rfl, ⟨pA, pc, tA, tc, HRU.out.put (x := { s.ln i with lost := lost' }) HIi.out rfl rfl hT (fun k hk => .inr (.inl ⟨_, HG.out, (List.mem_singleton.1 hk).symm⟩)) ?_ ?_ ?_ (fun a ha => (HRU.out.op a ha).2) (fun a ha hb => (HRU.out.ot a ha hb).2) ?_ ?_ ?_ HRU.out.bp HRU.out.bt⟩, fun k hk => .inl (by rw [← put_qL (x := { s.ln i with lost := lost' }) HIi.out rfl rfl]; exact hk), ?_⟩
  · rw [qIC_same (x := { s.ln i with lost := lost' }) HI.out HIi.out rfl rfl rfl, mB_put (x := { s.ln i with lost := lost' }) HIi.out rfl]
    exact hT.box HRU.out.box (fun hm => hgp (List.mem_singleton.1 hm).symm)
  · rw [qIC_same (x := { s.ln i with lost := lost' }) HI.out HIi.out rfl rfl rfl]
    exact HRU.out.rp.tn hT (fun a ha hm => (HRU.out.op a ha).2 (by rw [List.mem_singleton.1 hm]; exact (HRU.out.gmem HG.out).1))
  · rw [qIC_same (x := { s.ln i with lost := lost' }) HI.out HIi.out rfl rfl rfl]
    by_cases hb : s.bs = []
    · show Rd _ tA ((s.bs.map fun b => (b.line : Int)).map (.int .i64))
      rw [hb]; exact Rd.nil _ _
    · exact HRU.out.rt.tn hT (fun a ha hm => (HRU.out.ot a ha hb).2 (by rw [List.mem_singleton.1 hm]; exact (HRU.out.gmem HG.out).1))
  · rw [qIC_same (x := { s.ln i with lost := lost' }) HI.out HIi.out rfl rfl rfl]; exact HP0.out
  · rw [HG.out]
    exact line_set (x := { s.ln i with lost := lost' }) hll HIi.out (by decide) rfl
  · exact MkR.tn hms hT (fun hm => hmg.1 (List.mem_singleton.1 hm)) (fun hm => hmg.2 (List.mem_singleton.1 hm)) (Int.le_refl _)
  · have hBt : Tn (qL f s) w U := ⟨HBU.out.os, HBU.out.tape, HBU.out.output, HBU.out.size, fun k hk _ => HBU.out.block k hk⟩
    exact hBt.trans (hT.mono (fun k hk => by rw [List.mem_singleton.1 hk]; exact (HRU.out.gmem HG.out).1))
set_option maxHeartbeats 8000000 in
set_option maxRecDepth 100000 in
theorem iraise_new (f : IqF) (s : Qs) (n : Nat) (i : Nat) (top bottom : Int) (w : World) (h : IqM Bs w f s) (hI : QI n s) (hi : i < s.ls.length) (hr : (1 ≤ top ∧ top ≤ 1099511627776) ∧ 0 ≤ bottom ∧ bottom ≤ 1099511627776) (hn : n ≤ 1048576) (hpe : (s.ln i).pending = false) :
    Calls Tryd.prog 19 #[.pointer (some ⟨f.p, 0, none⟩), .int .i64 i, .int .i64 top, .int .i64 bottom] w (RetIq Bs f s (s.put i { s.ln i with pending := true, top := top, bottom := bottom }) (.int .i64 0) w) := by
  have H := Lib.hid h
  have HI := Lib.hid hI
  obtain ⟨pA, pc, tA, tc, hR⟩ := h
  obtain ⟨g, hg, hgp, _⟩ := hR.line hi
  have fF := Lib.hid (ifind_in f s i g w H.out hi hg)
  have fI := Lib.hid (raise_any (qIC s) hI.fits pA pc tA tc (i : Int) w hR.rp hR.rt)
  rw [q_raise hI hi, if_neg (by rw [hpe]; decide)] at fI
  unfold RetI icv at fI
  dsimp only at fI
  have HR := Lib.hid hR
  have HG := Lib.hid hg
  have HP0 : Hid (1 ≤ (qIC s).prio.length) := Lib.hid (qIC_ok hI).len1
  have hlo := (hI.line hi).lost
  have hlo2 : -9223372036854775808 ≤ (s.ln i).lost + 1 ∧ (s.ln i).lost + 1 ≤ 9223372036854775807 := by omega
  have zt1 : decide (top < 1) = false := decide_eq_false (by omega)
  have zt2 : decide (1099511627776 < top) = false := decide_eq_false (by omega)
  have zb1 : decide (bottom < 0) = false := decide_eq_false (by omega)
  have zb2 : decide (1099511627776 < bottom) = false := decide_eq_false (by omega)
  have q1 : ¬ top < 1 := by omega
  have q2 : ¬ 1099511627776 < top := by omega
  have q3 : ¬ bottom < 0 := by omega
  have q4 : ¬ 1099511627776 < bottom := by omega
  have HPe := Lib.hid hpe
  have HIi := Lib.hid hi
  obtain ⟨x, y⟩ := box_rules hR.box
  have l := box_lt hR.box
  clear hR hI hg hr hpe hi hn
  go_enter Tryd.func19, Tryd.ntmps19
  go_upto_region 5 with (first
    | (go_at_call 36; (with_reducible refine fF.out.mono ?_); rintro e w1 ⟨rfl, rfl⟩)
    | (go_at_call 37; (with_reducible refine fI.out.mono ?_); rintro e w1 ⟨pA', pc', sA', sc', rfl, hp1, hs1, hb1, hn1⟩; have HB1 := Lib.hid hb1; have HP1 := Lib.hid hp1; have HS1 := Lib.hid hs1; have HN1 := Lib.hid hn1; clear hp1 hs1 hb1 hn1))
  refine name_world fun U hU => ?_
  have hbU : Below w1.heap.size w1 U := by rw [hU]; exact (Below.refl _ _).alloc (Nat.le_refl _) _
  have HC : Hid (U.heap[w1.heap.size]? = some (.cells #[.int .u64 ((setB (qIC s).p i true : Nat) : Int), .int .u64 (qIC s).e, .int .u64 (qIC s).r, .int .u64 (qIC s).g, .slice pA' (qIC s).prio.length pc', .int .i64 (qIC s).t, .slice sA' (qIC s).stack.length sc'] 68 (0, 0))) := Lib.hid (by rw [hU]; exact heap_alloc_new _ _)
  have HRU := Lib.hid ((HR.out.below HB1.out).below hbU)
  have HBU := Lib.hid (HB1.out.trans (hbU.mono HB1.out.size))
  have HPU := Lib.hid (HP1.out.below hbU)
  have HSU := Lib.hid (HS1.out.below hbU)
  have hlt := HR.out.lt
  have HLt := Lib.hid hlt
  clear hU hbU x y l hlt
  obtain ⟨_, _, c1, c2, c3, c4, fz, lg⟩ := HRU.out.lineg HIi.out HG.out
  obtain ⟨x, y⟩ := box_rules HRU.out.box
  have l := box_lt HRU.out.box
  obtain ⟨x8, y8⟩ := box_rules HC.out
  have l8 := box_lt HC.out
  clear hlo hlo2
  go_upto_region 9 with fail
  refine name_world fun V2 hV2 => ?_
  obtain ⟨hE7, hT7⟩ := set7 HRU.out.box (.int .u64 ((setB (qIC s).p i true : Nat) : Int)) (.int .u64 (qIC s).e) (.int .u64 (qIC s).r) (.int .u64 (qIC s).g) (.slice pA' (qIC s).prio.length pc') (.int .i64 (qIC s).t) (.slice sA' (qIC s).stack.length sc')
  generalize (((((((U.setCell ⟨f.p, 0, none⟩ (.int .u64 ((setB (qIC s).p i true : Nat) : Int))).setCell ⟨f.p, 1, none⟩ (.int .u64 (qIC s).e)).setCell ⟨f.p, 2, none⟩ (.int .u64 (qIC s).r)).setCell ⟨f.p, 3, none⟩ (.int .u64 (qIC s).g)).setCell ⟨f.p, 4, none⟩ (.slice pA' (qIC s).prio.length pc')).setCell ⟨f.p, 5, none⟩ (.int .i64 (qIC s).t)).setCell ⟨f.p, 6, none⟩ (.slice sA' (qIC s).stack.length sc')) = U1 at *
  have hT2 : Tn [g] U1 V2 := by rw [hV2]; exact ((Tn.refl _ _).setCell (p := ⟨g, i * 5 + 1, none⟩) (by simp) _).setCell (p := ⟨g, i * 5 + 2, none⟩) (by simp) _
  have hT : Tn [f.p, g] U V2 := (hT7.mono (by simp)).trans (hT2.mono (by simp))
  have hll := HRU.out.ll
  rw [HG.out] at hll
  have hl1 := own_tnq hll hT7 (fun b hb hm => by
    injection hb with hb
    exact hgp (hb.trans (List.mem_singleton.1 hm)))
  have hl2 := line_set2 (x1 := { s.ln i with top := top }) (x := { s.ln i with pending := true, top := top, bottom := bottom }) (v := .int .i64 top) (v' := .int .i64 bottom) (j := 1) (j' := 2) hl1 HIi.out (by decide) (by decide) rfl rfl
  rw [← hV2] at hl2
  have hms := HRU.out.ms _ (ln_mem HIi.out)
  have hap := HRU.out.apart (ln_mem HIi.out)
  have hmg := (hap.2.1 _ HG.out)
  have hgq := HRU.out.gmem HG.out
  have HE := Lib.hid (hT2.box hE7 (fun hm => hgp (List.mem_singleton.1 hm).symm))
  have HTv := Lib.hid hT; have HL2 := Lib.hid hl2
  have hnew : ∀ k ∈ [f.p, g], k < w.heap.size := fun k hk => by
    rcases List.mem_cons.1 hk with rfl | hk
    · exact HLt.out _ hgq.2
    · rw [List.mem_singleton.1 hk]; exact HLt.out _ hgq.1
  have HNew := Lib.hid hnew
  have hF : ∀ k ∈ [f.p, g], k = f.p ∨ (∃ a, f.lA = some a ∧ a.block = k) ∨ k = (s.ln i).mb ∨ k = (s.ln i).mg := fun k hk => by
    rcases List.mem_cons.1 hk with rfl | hk
    · exact .inl rfl
    · exact .inr (.inl ⟨_, HG.out, (List.mem_singleton.1 hk).symm⟩)
  have HF := Lib.hid hF
  have HMs := Lib.hid hms
  have HApp := Lib.hid hap; have HMg := Lib.hid hmg
  clear hV2 hE7 hT7 hT2 hT hll hl1 hl2 hms hap hmg hgq hnew hF x y l x8 y8 l8 c1 c2 c3 c4 fz lg
  go_wp2
  go_ret
  have hq : qIC (s.put i { s.ln i with pending := true, top := top, bottom := bottom }) = { qIC s with p := setB (qIC s).p i true } := qIC_pend (x := { s.ln i with pending := true, top := top, bottom := bottom }) HI.out HIi.out rfl rfl
  refine ⟨rfl, f, rfl, ⟨pA', pc', sA', sc', HRU.out.put (x := { s.ln i with pending := true, top := top, bottom := bottom }) HIi.out rfl rfl HTv.out HF.out ?_ ?_ ?_ (fun a ha hm => ?_) (fun a ha hb hm => ?_) ?_ ?_ ?_ (fun a ha hB => by have h7 := HN1.out.1 a ha; have h6 := H.out.bl _ hB; omega) (fun a ha _ hB => by have h7 := HN1.out.2 a ha; have h6 := H.out.bl _ hB; omega)⟩, fun k hk => .inl (by rw [← put_qL (x := { s.ln i with pending := true, top := top, bottom := bottom }) HIi.out rfl rfl]; exact hk), ?_⟩
  · rw [hq, mB_put (x := { s.ln i with pending := true, top := top, bottom := bottom }) HIi.out rfl]
    exact HE.out
  · rw [hq]
    exact HPU.out.tn HTv.out (fun a ha hm => by have h7 := HN1.out.1 a ha; have h6 := HNew.out _ hm; omega)
  · rw [hq]
    exact HSU.out.tn HTv.out (fun a ha hm => by have h7 := HN1.out.2 a ha; have h6 := HNew.out _ hm; omega)
  · have h7 := HN1.out.1 a ha; have h6 := HLt.out _ hm; omega
  · have h7 := HN1.out.2 a ha; have h6 := HLt.out _ hm; omega
  · rw [hq]; exact HP0.out
  · rw [HG.out]; exact HL2.out
  · exact MkR.tn HMs.out HTv.out (fun hm => by
      rcases List.mem_cons.1 hm with e | e
      · exact HApp.out.1.1 e
      · exact HMg.out.1 (List.mem_singleton.1 e)) (fun hm => by
      rcases List.mem_cons.1 hm with e | e
      · exact HApp.out.1.2 e
      · exact HMg.out.2 (List.mem_singleton.1 e)) (Int.le_refl _)
  · have hBt : Tn (qL f s) w U := ⟨HBU.out.os, HBU.out.tape, HBU.out.output, HBU.out.size, fun k hk _ => HBU.out.block k hk⟩
    exact hBt.trans (HTv.out.mono (fun k hk => by
      rcases List.mem_cons.1 hk with rfl | hk
      · exact (HRU.out.gmem HG.out).2
      · rw [List.mem_singleton.1 hk]; exact (HRU.out.gmem HG.out).1))
theorem iraise_any (f : IqF) (s : Qs) (n : Nat) (line top bottom : Int) (w : World) (h : IqM Bs w f s) (hI : QI n s) (hn : n ≤ 1048576) :
    Calls Tryd.prog 19 #[.pointer (some ⟨f.p, 0, none⟩), .int .i64 line, .int .i64 top, .int .i64 bottom] w (RetIq Bs f s (raiseS s line top bottom) (.int .i64 (raiseC s line top bottom)) w) := by
  by_cases hr : 0 ≤ line ∧ line < s.ls.length ∧ 1 ≤ top ∧ top ≤ 1099511627776 ∧ 0 ≤ bottom ∧ bottom ≤ 1099511627776
  · obtain ⟨i, rfl⟩ := Int.eq_ofNat_of_zero_le hr.1
    have hi : i < s.ls.length := by omega
    by_cases hp : (s.ln i).pending = true
    · have hc : raiseC s (i : Int) top bottom = 4 := by unfold raiseC; rw [if_pos hr, Int.toNat_natCast, if_pos hp]
      have hs : raiseS s (i : Int) top bottom = s.put i { s.ln i with lost := (s.ln i).lost + 1 } := by unfold raiseS; rw [hc, if_pos rfl, Int.toNat_natCast]
      rw [hc, hs]
      exact iraise_twice f s n i top bottom w h hI hi ⟨⟨hr.2.2.1, hr.2.2.2.1⟩, hr.2.2.2.2⟩ hn hp
    · have hc : raiseC s (i : Int) top bottom = 0 := by unfold raiseC; rw [if_pos hr, Int.toNat_natCast, if_neg hp]
      have hs : raiseS s (i : Int) top bottom = s.put i { s.ln i with pending := true, top := top, bottom := bottom } := by unfold raiseS; rw [hc, if_neg (by decide), if_pos rfl, Int.toNat_natCast]
      rw [hc, hs]
      exact iraise_new f s n i top bottom w h hI hi ⟨⟨hr.2.2.1, hr.2.2.2.1⟩, hr.2.2.2.2⟩ hn (by simpa using hp)
  · exact iraise_bad f s line top bottom w h (by unfold raiseC; rw [if_neg hr])
theorem bdrq {w : World} {b : Nat} {o : Obj} (h : w.heap[b]? = some o) : w.drew.heap[b]? = some o := h
theorem bdrqN {w : World} {b : Nat} {o : Obj} (h : w.heap[b]? = some o) (n : Nat) : (w.drewN n).heap[b]? = some o := h
theorem mask_ll {s : Qs} {i : Nat} {u : Bool} : (s.put i { s.ln i with masked := u }).ls.flatMap lmc = s.ls.flatMap lmc := by
  rw [List.flatMap_def, List.flatMap_def]
  congr 1
  by_cases hi : i < s.ls.length
  · exact put_map (x := { s.ln i with masked := u }) lmc hi rfl
  · unfold Qs.put
    rw [List.set_eq_of_length_le (by omega)]
theorem mB_set {s : Qs} {i : Nat} {x : Lq} (hi : i < s.ls.length) : mB (s.put i x) = setB (mB s) i x.masked := by
  unfold mB setB
  refine mk_congr fun j hj => ?_
  rw [put_len, put_ln hi, mk_bit]
  by_cases hji : j = i
  · subst hji; rw [if_pos rfl, if_pos rfl, decide_eq_true hi, Bool.true_and]
  · rw [if_neg hji, if_neg hji, decide_eq_true hj, Bool.true_and]
theorem setB_twice (b n : Nat) (u v : Bool) : setB (setB b n u) n v = setB b n v := by
  unfold setB
  refine mk_congr fun j hj => ?_
  rw [mk_bit]
  by_cases hji : j = n
  · rw [if_pos hji, if_pos hji]
  · rw [if_neg hji, if_neg hji, if_neg hji, decide_eq_true hj, Bool.true_and]
set_option maxHeartbeats 8000000 in
set_option maxRecDepth 100000 in
theorem imask_any (f : IqF) (s : Qs) (n : Nat) (i : Nat) (on : Bool) (w : World) (h : IqM Bs w f s) (hI : QI n s) (hi : i < s.ls.length) :
    Calls Tryd.prog 41 #[.pointer (some ⟨f.p, 0, none⟩), .int .i64 i, .bool on] w (RetIq Bs f s (s.put i { s.ln i with masked := on }) (.tuple #[]) w) := by
  obtain ⟨pA, pc, tA, tc, hR⟩ := h
  have fE := Lib.hid (fun X hp hq => enable_any (qIC s) hI.fits pA pc tA tc (i : Int) X hp hq (!on))
  rw [q_enable hI hi] at fE
  unfold RetI icv at fE
  dsimp only at fE
  have HR := Lib.hid hR
  have HI := Lib.hid hI
  have HIi := Lib.hid hi
  have hi64 : i < 64 := by have := hI.len; omega
  have hmb : mB s < 18446744073709551616 := mk_lt _
  have HP0 : Hid (1 ≤ (qIC s).prio.length) := Lib.hid (qIC_ok hI).len1
  have u1 := u_andNot hmb hi64
  have u2 := u_or (setB_lt (mB s) i false) hi64
  rw [setB_twice] at u2
  obtain ⟨x, y⟩ := box_rules hR.box
  have l := box_lt hR.box
  have b1 : (i : Int) < 64 := by omega
  have HQ : Hid (qIC (s.put i { s.ln i with masked := on }) = { qIC s with e := setB (qIC s).e i (!on) }) := Lib.hid (qIC_mask (x := { s.ln i with masked := on }) hI hi rfl rfl)
  have HMb : Hid (mB (s.put i { s.ln i with masked := on }) = setB (mB s) i on) := Lib.hid (mB_set hi)
  clear hR hI hi hmb
  go_enter Tryd.func41, Tryd.ntmps41
  go_wp2_with fail
  refine still_tail 9 (by kernel_rfl) (by kernel_rfl) ?_
  simp only [List.take_succ_cons, List.take_zero, List.drop_succ_cons, List.drop_zero]
  repeat still_step
  refine wpStill_nil ?_
  have hX := box_set (i := 9) (w := w) HR.out.box (.int .u64 ((setB (mB s) i false : Nat) : Int))
  simp only [List.setIfInBounds_toArray, List.set_cons_zero, List.set_cons_succ] at hX
  have hpm : f.p ∈ [f.p] := by simp
  have hTm : Tn [f.p] w (w.setCell ⟨f.p, 9, none⟩ (.int .u64 ((setB (mB s) i false : Nat) : Int))) := (Tn.refl _ _).setCell (p := ⟨f.p, 9, none⟩) hpm _
  cases on with
  | false =>
    simp only [Bool.not_false] at fE
    go_wp2_with fail
    have hX := bdrq hX
    have hTm := hTm.drew
    have HX := Lib.hid hX
    have HTm := Lib.hid hTm
    have hlt := HR.out.lt
    have hps := (mem_qL (f := f) (s := s)).2 (.inl rfl)
    have HLp := Lib.hid (show f.p ∈ qL f s from hps)
    have HLt := Lib.hid hlt
    have HA1 : Hid (∀ a, pA = some a → a.block ∉ [f.p]) := Lib.hid (fun a ha hm => (HR.out.op a ha).2 (by rw [List.mem_singleton.1 hm]; exact HLp.out))
    clear hX hTm x y l hlt hps u1 u2 b1 hi64
    (with_reducible refine (fE.out _ (HR.out.rp.tn HTm.out HA1.out) ?_).mono ?_)
    · by_cases hb : s.bs = []
      · show Rd _ tA ((s.bs.map fun b => (b.line : Int)).map (.int .i64))
        rw [hb]; exact Rd.nil _ _
      · exact HR.out.rt.tn HTm.out (fun a ha hm => (HR.out.ot a ha hb).2 (by rw [List.mem_singleton.1 hm]; exact HLp.out))
    rintro e w1 ⟨pA', pc', sA', sc', rfl, hp1, hs1, hb1, hn1⟩
    have HP1 := Lib.hid hp1
    have HS1 := Lib.hid hs1
    have HN1 := Lib.hid hn1
    have HX1 := Lib.hid (box_keep HX.out hb1)
    have HT1 := Lib.hid (HTm.out.below hb1)
    have hsz := HTm.out.size
    have HSz := Lib.hid hsz
    clear hp1 hs1 hb1 hn1 hsz
    obtain ⟨x, y⟩ := box_rules HX1.out
    have l := box_lt HX1.out
    go_wp2
    first
      | refine bodyPost_ret (results_none rfl _ _ _) rfl ?_
      | go_end0
    obtain ⟨hE7, hT7⟩ := set7 HX1.out (.int .u64 (qIC s).p) (.int .u64 ((setB (qIC s).e i (!false) : Nat) : Int)) (.int .u64 (qIC s).r) (.int .u64 (qIC s).g) (.slice pA' (qIC s).prio.length pc') (.int .i64 (qIC s).t) (.slice sA' (qIC s).stack.length sc')
    have hT := HT1.out.trans hT7
    have hnp : f.p < w.heap.size := HLt.out _ HLp.out
    have hms := HR.out.ms _ (ln_mem HIi.out)
    have hapm := HR.out.apart (ln_mem HIi.out)
    refine ⟨rfl, f, rfl, ⟨pA', pc', sA', sc', HR.out.put (x := { s.ln i with masked := false }) HIi.out rfl rfl hT (fun k hk => .inl (List.mem_singleton.1 hk)) ?_ ?_ ?_ (fun a ha hm => ?_) (fun a ha hb hm => ?_) ?_ ?_ ?_ (fun a ha hB => by have h7 := HN1.out.1 a ha; have h6 := HR.out.bl _ hB; have h5 := HSz.out; simp at h5 h7; omega) (fun a ha _ hB => by have h7 := HN1.out.2 a ha; have h6 := HR.out.bl _ hB; have h5 := HSz.out; simp at h5 h7; omega)⟩, fun k hk => .inl (by rw [← put_qL (x := { s.ln i with masked := false }) HIi.out rfl rfl]; exact hk), hT.mono (fun k hk => by rw [List.mem_singleton.1 hk]; exact HLp.out)⟩
    · rw [HQ.out, HMb.out]
      exact hE7
    · rw [HQ.out]
      exact HP1.out.tn hT7 (fun a ha hm => by have h7 := HN1.out.1 a ha; have h6 := HSz.out; have h5 := List.mem_singleton.1 hm; simp at h6 h7; omega)
    · rw [HQ.out]
      exact HS1.out.tn hT7 (fun a ha hm => by have h7 := HN1.out.2 a ha; have h6 := HSz.out; have h5 := List.mem_singleton.1 hm; simp at h6 h7; omega)
    · have h7 := HN1.out.1 a ha; have h6 := HLt.out _ hm; have h5 := HSz.out; simp at h5 h7; omega
    · have h7 := HN1.out.2 a ha; have h6 := HLt.out _ hm; have h5 := HSz.out; simp at h5 h7; omega
    · rw [HQ.out]; exact HP0.out
    · rw [mask_ll]
      exact own_tnq HR.out.ll hT (fun b hb hm => by
        cases ha : f.lA with
        | none => rw [ha] at hb; cases hb
        | some a => rw [ha] at hb; injection hb with hb; exact (HR.out.rows.1 a ha) (hb.trans (List.mem_singleton.1 hm)))
    · exact MkR.tn hms hT (fun hm => hapm.1.1 (List.mem_singleton.1 hm)) (fun hm => hapm.1.2 (List.mem_singleton.1 hm)) (Int.le_refl _)
  | true =>
    simp only [Bool.not_true] at fE
    go_wp2_with fail
    refine still_tail 9 (by kernel_rfl) (by kernel_rfl) ?_
    simp only [List.take_succ_cons, List.take_zero, List.drop_succ_cons, List.drop_zero]
    repeat still_step
    refine wpStill_nil ?_
    have hX2 := box_set (i := 9) (w := (w.setCell ⟨f.p, 9, none⟩ (.int .u64 ((setB (mB s) i false : Nat) : Int)))) hX (.int .u64 ((setB (mB s) i true : Nat) : Int))
    simp only [List.setIfInBounds_toArray, List.set_cons_zero, List.set_cons_succ] at hX2
    have hTm2 : Tn [f.p] w ((w.setCell ⟨f.p, 9, none⟩ (.int .u64 ((setB (mB s) i false : Nat) : Int))).setCell ⟨f.p, 9, none⟩ (.int .u64 ((setB (mB s) i true : Nat) : Int))) := hTm.setCell (p := ⟨f.p, 9, none⟩) hpm _
    clear hX hTm
    go_wp2_with fail
    have hX := bdrq (bdrq hX2)
    have hTm := hTm2.drew.drew
    clear hX2 hTm2
    have HX := Lib.hid hX
    have HTm := Lib.hid hTm
    have hlt := HR.out.lt
    have hps := (mem_qL (f := f) (s := s)).2 (.inl rfl)
    have HLp := Lib.hid (show f.p ∈ qL f s from hps)
    have HLt := Lib.hid hlt
    have HA1 : Hid (∀ a, pA = some a → a.block ∉ [f.p]) := Lib.hid (fun a ha hm => (HR.out.op a ha).2 (by rw [List.mem_singleton.1 hm]; exact HLp.out))
    clear hX hTm x y l hlt hps u1 u2 b1 hi64
    (with_reducible refine (fE.out _ (HR.out.rp.tn HTm.out HA1.out) ?_).mono ?_)
    · by_cases hb : s.bs = []
      · show Rd _ tA ((s.bs.map fun b => (b.line : Int)).map (.int .i64))
        rw [hb]; exact Rd.nil _ _
      · exact HR.out.rt.tn HTm.out (fun a ha hm => (HR.out.ot a ha hb).2 (by rw [List.mem_singleton.1 hm]; exact HLp.out))
    rintro e w1 ⟨pA', pc', sA', sc', rfl, hp1, hs1, hb1, hn1⟩
    have HP1 := Lib.hid hp1
    have HS1 := Lib.hid hs1
    have HN1 := Lib.hid hn1
    have HX1 := Lib.hid (box_keep HX.out hb1)
    have HT1 := Lib.hid (HTm.out.below hb1)
    have hsz := HTm.out.size
    have HSz := Lib.hid hsz
    clear hp1 hs1 hb1 hn1 hsz
    obtain ⟨x, y⟩ := box_rules HX1.out
    have l := box_lt HX1.out
    go_wp2
    first
      | refine bodyPost_ret (results_none rfl _ _ _) rfl ?_
      | go_end0
    obtain ⟨hE7, hT7⟩ := set7 HX1.out (.int .u64 (qIC s).p) (.int .u64 ((setB (qIC s).e i (!true) : Nat) : Int)) (.int .u64 (qIC s).r) (.int .u64 (qIC s).g) (.slice pA' (qIC s).prio.length pc') (.int .i64 (qIC s).t) (.slice sA' (qIC s).stack.length sc')
    have hT := HT1.out.trans hT7
    have hnp : f.p < w.heap.size := HLt.out _ HLp.out
    have hms := HR.out.ms _ (ln_mem HIi.out)
    have hapm := HR.out.apart (ln_mem HIi.out)
    refine ⟨rfl, f, rfl, ⟨pA', pc', sA', sc', HR.out.put (x := { s.ln i with masked := true }) HIi.out rfl rfl hT (fun k hk => .inl (List.mem_singleton.1 hk)) ?_ ?_ ?_ (fun a ha hm => ?_) (fun a ha hb hm => ?_) ?_ ?_ ?_ (fun a ha hB => by have h7 := HN1.out.1 a ha; have h6 := HR.out.bl _ hB; have h5 := HSz.out; simp at h5 h7; omega) (fun a ha _ hB => by have h7 := HN1.out.2 a ha; have h6 := HR.out.bl _ hB; have h5 := HSz.out; simp at h5 h7; omega)⟩, fun k hk => .inl (by rw [← put_qL (x := { s.ln i with masked := true }) HIi.out rfl rfl]; exact hk), hT.mono (fun k hk => by rw [List.mem_singleton.1 hk]; exact HLp.out)⟩
    · rw [HQ.out, HMb.out]
      exact hE7
    · rw [HQ.out]
      exact HP1.out.tn hT7 (fun a ha hm => by have h7 := HN1.out.1 a ha; have h6 := HSz.out; have h5 := List.mem_singleton.1 hm; simp at h6 h7; omega)
    · rw [HQ.out]
      exact HS1.out.tn hT7 (fun a ha hm => by have h7 := HN1.out.2 a ha; have h6 := HSz.out; have h5 := List.mem_singleton.1 hm; simp at h6 h7; omega)
    · have h7 := HN1.out.1 a ha; have h6 := HLt.out _ hm; have h5 := HSz.out; simp at h5 h7; omega
    · have h7 := HN1.out.2 a ha; have h6 := HLt.out _ hm; have h5 := HSz.out; simp at h5 h7; omega
    · rw [HQ.out]; exact HP0.out
    · rw [mask_ll]
      exact own_tnq HR.out.ll hT (fun b hb hm => by
        cases ha : f.lA with
        | none => rw [ha] at hb; cases hb
        | some a => rw [ha] at hb; injection hb with hb; exact (HR.out.rows.1 a ha) (hb.trans (List.mem_singleton.1 hm)))
    · exact MkR.tn hms hT (fun hm => hapm.1.1 (List.mem_singleton.1 hm)) (fun hm => hapm.1.2 (List.mem_singleton.1 hm)) (Int.le_refl _)
end Go.Proofs.YtpncbkodhojicaaDoor

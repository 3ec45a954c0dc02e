/- Package irq: the walk of New, with the memory of the lines that it makes. Conditions: lines that read. -/
import Derived.Test.YtpncbkodhojicaaDoorQbBIc
namespace Go.Proofs.YtpncbkodhojicaaDoor
open Go.RowKit Go.Shelf
variable {Bs : Nat → Prop}
attribute [local go_sem] Oper.semAt_some
theorem storm_mem (many : Nat) (window : Int) (w : World) (h0 : 1 ≤ many) (h1 : many ≤ 64) (h2 : 1 ≤ window) (h3 : window ≤ 1099511627776) :
    Calls Tryd.prog 25 #[.int .i64 many, .int .i64 window] w fun e w' => ∃ p g, e = .returned (.tuple #[.pointer (some ⟨p, 0, none⟩), .int .i64 0]) ∧ w.heap.size ≤ p ∧ w.heap.size ≤ g ∧ MkM w' p g many window [] 0 0 0 (List.replicate many 0) ∧ Below w.heap.size w w' := by
  have hmk := run_make_row' (P := Tryd.prog) 47 2 (.int .i64 0) 8 Tryd.underlying47 (by kernel_rfl) rfl .i64 .i64 many (by omega) (by omega)
  go_enter Tryd.func25, Tryd.ntmps25
  go_wp2
  go_ret2
  refine ⟨_, w.heap.size, rfl, by simp, Nat.le_refl _, ⟨heap_new_at _ (by simp), ?_, List.length_replicate, h1, by omega, by simp, fun i hi => absurd hi (Nat.not_lt_zero _)⟩, ((Below.refl _ _).alloc (Nat.le_refl _) _).alloc (by simp) _⟩
  refine box_alloc ?_ _
  rw [heap_alloc_new]
  have e : madeCells #[Value.int .i64 0] many = ((List.replicate many (0 : Int)).map (Value.int .i64)).toArray := Array.toList_inj.1 (by rw [toList_madeCells_one]; simp)
  rw [e]
def lnNew (x : Ln) (p g : Nat) : Lq := ⟨x, p, g, [], false, false, 0, 0, 0, 0⟩
/-- The first so many lines, made. -/
structure FrL (ls : List Ln) (k b : Nat) (w : World) (xs : List Lq) : Prop where
  how : xs.map Lq.how = ls.take k
  new : ∀ x ∈ xs, x = lnNew x.how x.mb x.mg
  mem : ∀ x ∈ xs, b ≤ x.mb ∧ b ≤ x.mg ∧ MkR w 0 x
  nb : (xs.map (·.mb)).Nodup
  ng : (xs.map (·.mg)).Nodup
theorem MkR.lt {w : World} {last : Int} {x : Lq} (h : MkR w last x) : x.mb < w.heap.size ∧ x.mg < w.heap.size := by
  obtain ⟨_, _, _, _, _, _, _, hm⟩ := h
  exact ⟨box_lt hm.box, box_lt hm.rng⟩
theorem MkR.step {w w' : World} {last : Int} {x : Lq} {v : Value} {base : Nat} {e : TypeId} (h : MkR w last x) (g : Step w w' v base e) (h1 : e ≠ 111) (h2 : e ≠ 2) : MkR w' last x := by
  obtain ⟨a, b, c, d, r, q1, q2, hm⟩ := h
  exact ⟨a, b, c, d, r, q1, q2, ⟨g.other hm.box h1, g.other hm.rng h2, hm.rlen, hm.m64, hm.fin, hm.len, hm.at'⟩⟩
theorem MkR.tn' {w w' : World} {F : List Nat} {last : Int} {x : Lq} (h : MkR w last x) (ht : Tn F w w') (h1 : x.mb ∉ F) (h2 : x.mg ∉ F) : MkR w' last x := by
  obtain ⟨a, b, c, d, r, q1, q2, hm⟩ := h
  exact ⟨a, b, c, d, r, q1, q2, hm.tn ht h1 h2⟩
section
variable {ls : List Ln} {k b : Nat} {w w' : World} {xs : List Lq}
theorem FrL.len (h : FrL ls k b w xs) (hk : k ≤ ls.length) : xs.length = k := by
  have := congrArg List.length h.how
  rw [List.length_map, List.length_take] at this
  omega
theorem FrL.map (h : FrL ls k b w xs) (hm : ∀ x ∈ xs, MkR w 0 x → MkR w' 0 x) : FrL ls k b w' xs := ⟨h.how, h.new, fun x hx => ⟨(h.mem x hx).1, (h.mem x hx).2.1, hm x hx (h.mem x hx).2.2⟩, h.nb, h.ng⟩
theorem FrL.tn {F : List Nat} (h : FrL ls k b w xs) (ht : Tn F w w') (hF : ∀ i ∈ F, i < b) : FrL ls k b w' xs := h.map fun x hx hm => hm.tn' ht (fun hi => by have := hF _ hi; have := (h.mem x hx).1; omega) (fun hi => by have := hF _ hi; have := (h.mem x hx).2.1; omega)
theorem FrL.step {v : Value} {base : Nat} {e : TypeId} (h : FrL ls k b w xs) (g : Step w w' v base e) (h1 : e ≠ 111) (h2 : e ≠ 2) : FrL ls k b w' xs := h.map fun _ _ hm => hm.step g h1 h2
theorem FrL.snoc {p g many : Nat} {x : Ln} (h : FrL ls k b w xs) (hb : Below w.heap.size w w') (hbw : b ≤ w.heap.size) (hk : k < ls.length) (hx : ls.getD k ⟨0, 0, 0, 0⟩ = x) (hmany : x.many = (many : Int)) (hp : w.heap.size ≤ p) (hg : w.heap.size ≤ g) (hm : MkM w' p g many x.window [] 0 0 0 (List.replicate many 0)) : FrL ls (k + 1) b w' (xs ++ [lnNew x p g]) where
  how := by
    rw [List.map_append, h.how, List.take_succ_eq_append_getElem hk, ← hx, List.getD_eq_getElem?_getD, List.getElem?_eq_getElem hk]; rfl
  new y hy := by
    rcases List.mem_append.1 hy with hy | hy
    · exact h.new y hy
    · obtain rfl := List.mem_singleton.1 hy; rfl
  mem y hy := by
    rcases List.mem_append.1 hy with hy | hy
    · exact ⟨(h.mem y hy).1, (h.mem y hy).2.1, (h.mem y hy).2.2.tn' (Tn.of_below [] hb) (by simp) (by simp)⟩
    · obtain rfl := List.mem_singleton.1 hy
      exact ⟨Nat.le_trans hbw hp, Nat.le_trans hbw hg, many, 0, 0, 0, _, hmany, Int.le_refl _, hm⟩
  nb := by
    rw [List.map_append, List.nodup_append]
    refine ⟨h.nb, by simp, fun a ha c hc e => ?_⟩
    obtain ⟨y, hy, rfl⟩ := List.mem_map.1 ha
    obtain ⟨z, hz, rfl⟩ := List.mem_map.1 hc
    obtain rfl := List.mem_singleton.1 hz
    have := (h.mem y hy).2.2.lt.1
    have e : y.mb = p := e
    omega
  ng := by
    rw [List.map_append, List.nodup_append]
    refine ⟨h.ng, by simp, fun a ha c hc e => ?_⟩
    obtain ⟨y, hy, rfl⟩ := List.mem_map.1 ha
    obtain ⟨z, hz, rfl⟩ := List.mem_map.1 hc
    obtain rfl := List.mem_singleton.1 hz
    have := (h.mem y hy).2.2.lt.2
    have e : y.mg = g := e
    omega
end
theorem mk_zero {p : Nat → Bool} (h : ∀ i, i < 64 → p i = false) : mk p = 0 := by
  rw [← eq_mk (b := 0) (by decide) (fun i hi => by rw [Nat.zero_testBit, h i hi])]
/-- The controller of new lines. -/
theorem fresh_qIC {xs : List Lq} (h : ∀ x ∈ xs, x = lnNew x.how x.mb x.mg) : qIC ⟨xs, [], 0⟩ = freshC (gB (qN ⟨xs, [], 0⟩)) (qPrio ⟨xs, [], 0⟩) ∧ mB ⟨xs, [], 0⟩ = 0 := by
  have hl : ∀ i, (decide (i < xs.length) && (Qs.ln ⟨xs, [], 0⟩ i).pending) = false ∧ (Qs.ln ⟨xs, [], 0⟩ i).masked = false := fun i => by
    by_cases hi : i < xs.length
    · have := h _ (ln_mem (s := ⟨xs, [], 0⟩) hi)
      rw [this]; simp [lnNew]
    · rw [ln_out (s := ⟨xs, [], 0⟩) hi]; simp [lq0]
  refine ⟨?_, mk_zero fun i _ => by rw [(hl i).2]; simp⟩
  unfold qIC freshC
  congr 1
  · exact mk_zero fun i _ => (hl i).1
  · refine mk_congr fun i _ => ?_
    rw [(hl i).2, qPrio_len]; simp
/-- What making lines comes to, with their memory. -/
def RetQm (ls : List Ln) (w : World) (e : Ending) (w' : World) : Prop :=
  if irqWhy ls = 0 then ∃ f xs, e = .returned (.tuple #[.pointer (some ⟨f.p, 0, none⟩), .int .i64 0]) ∧ (∀ Bs : Nat → Prop, (∀ b, Bs b → b < w.heap.size) → IqM Bs w' f ⟨xs, [], 0⟩) ∧ xs.map Lq.how = ls ∧ (∀ x ∈ xs, x = lnNew x.how x.mb x.mg) ∧ (∀ k ∈ qL f ⟨xs, [], 0⟩, w.heap.size ≤ k) ∧ Below w.heap.size w w'
  else e = .returned (.tuple #[.pointer none, .int .i64 1]) ∧ Below w.heap.size w w'
theorem retq_bad {ls : List Ln} {k : Nat} (hk : k < ls.length) (h : lnMade (ls.getD k ⟨0, 0, 0, 0⟩) = false) {w w' : World} (hb : Below w.heap.size w w') : RetQm ls w (.returned (.tuple #[.pointer none, .int .i64 1])) w' := by
  have e : irqWhy ls = 1 := by
    unfold irqWhy
    have : ls.all lnMade = false := by
      rw [List.all_eq_false]
      refine ⟨_, List.getElem_mem hk, ?_⟩
      simp [List.getD, hk] at h
      simp [h]
    simp [this]
  unfold RetQm
  rw [if_neg (by omega)]
  exact ⟨rfl, hb⟩
theorem retq_ok {ls : List Ln} {w V w6 : World} {b : Nat} {xs : List Lq} {A1 : Option Addr} {c1 : Nat} {e0 : Int} {pA : Option Addr} {pc : Nat} {sA : Option Addr} {sc : Nat} (h : FrL ls ls.length b w6 xs) (hw0 : irqWhy ls = 0) (hT : Tn [w.heap.size] w6 V) (hbw : w.heap.size < b)
    (hn1 : 1 ≤ (qPrio ⟨xs, [], 0⟩).length) (he0 : e0 = ((qIC ⟨xs, [], 0⟩).e : Int)) (hp : Rd w6 pA ((qPrio ⟨xs, [], 0⟩).map (.int .i64))) (hpw : ∀ a, pA = some a → w.heap.size ≤ a.block) (hpn : ∀ a, pA = some a → a.block ∉ qL ⟨w.heap.size, A1, c1, none, 0⟩ ⟨xs, [], 0⟩)
    (ho : w6.ownsRow (w.heap.size + 1) 77 5 (.slice A1 xs.length c1) xs.length (xs.flatMap lmc)) (hB : Below w.heap.size w V)
    (box : V.heap[w.heap.size]? = some (.cells #[.int .u64 0, .int .u64 e0, .int .u64 0, .int .u64 (gB (qN ⟨xs, [], 0⟩)), .slice pA (qPrio ⟨xs, [], 0⟩).length pc, .int .i64 0, .slice sA 0 sc, .slice A1 xs.length c1, .slice none 0 0, .int .u64 0, .int .i64 0] 72 (0, 0))) :
    RetQm ls w (.returned (.tuple #[.pointer (some ⟨w.heap.size, 0, none⟩), .int .i64 0])) V := by
  obtain ⟨hq, hm⟩ := fresh_qIC h.new
  have hT6 := hT.size
  have hz : w.heap.size < V.heap.size := box_lt box
  unfold RetQm
  rw [if_pos hw0]
  have hR : ∀ Bs : Nat → Prop, (∀ b, Bs b → b < w.heap.size) → IqR Bs V ⟨w.heap.size, A1, c1, none, 0⟩ ⟨xs, [], 0⟩ pA pc sA sc := fun Bs hBs => {
    box := by
      rw [hm, ← he0, hq]
      exact box
    rp := by
      rw [hq]
      exact hp.tn hT fun a ha hi => hpn a ha (by rw [List.mem_singleton.1 hi]; exact mem_qL.2 (.inl rfl))
    rt := by
      show Rd V sA (([] : List Int).map (.int .i64))
      exact Rd.nil _ _
    op := fun a ha => ⟨by
      obtain ⟨c, hc, h1⟩ := hp.get (i := 0) (by rw [List.length_map]; omega)
      rw [ha] at hc; cases hc
      exact Nat.lt_of_lt_of_le (Rd.lt h1) hT6, hpn a ha⟩
    ot := fun a ha hb => absurd rfl hb
    ll := own_tnq (own_monoK ho (Nat.zero_le _)) hT fun g hg hi => by
      have := (own_blockK ho hg).1
      have := List.mem_singleton.1 hi
      omega
    sl := own_nilK _ _ _ _
    ms := fun x hx => (h.mem x hx).2.2.tn' hT (fun hi => by have := List.mem_singleton.1 hi; have := (h.mem x hx).1; omega) (fun hi => by have := List.mem_singleton.1 hi; have := (h.mem x hx).2.1; omega)
    nb := h.nb
    ng := h.ng
    bp := fun a ha hB => by have h1 := hpw a ha; have h2 := hBs _ hB; omega
    bt := fun a ha hb => absurd rfl hb
    bl := fun b hb => by have := hBs b hb; omega }
  refine ⟨⟨w.heap.size, A1, c1, none, 0⟩, xs, rfl, fun Bs hBs => ⟨pA, pc, sA, sc, hR Bs hBs⟩, by rw [h.how, List.take_length], h.new, fun k hk => ?_, hB⟩
  rcases mem_qL.1 hk with rfl | ⟨a, ha, rfl⟩ | ⟨a, ha, rfl⟩ | ⟨x, hx, rfl⟩ | ⟨x, hx, rfl⟩
  · exact Nat.le_refl _
  · have ha : A1 = some a := ha
    have := (own_blockK ho (g := a.block) (by rw [ha]; rfl)).1
    omega
  · cases ha
  · have := (h.mem x hx).1; omega
  · have := (h.mem x hx).2.1; omega
theorem reti_ok2 {g : Nat} {l : List Int} {w : World} {e : Ending} {w' : World} (e0 : Int) (he : e0 = ((freshC g l).e : Int)) (h : RetI (freshC g l, 0) w e w') :
    ∃ (pA : Option Addr) (pc : Nat) (sA : Option Addr) (sc : Nat), e = .returned (.tuple #[.agg #[.int .u64 0, .int .u64 e0, .int .u64 0, .int .u64 g, .slice pA l.length pc, .int .i64 0, .slice sA 0 sc], .int .i64 0]) ∧ Rd w' pA (l.map (.int .i64)) ∧ Below w.heap.size w w' ∧ New w.heap.size pA sA := by
  subst he
  obtain ⟨pA, pc, sA, sc, he, hp, _, hb, hn⟩ := h
  exact ⟨pA, pc, sA, sc, he, hp, hb, hn⟩
theorem qL_fresh {ls : List Ln} {k : Nat} {w0 : Nat} {wr : World} {xs : List Lq} {A1 : Option Addr} {c1 : Nat} (h : FrL ls k (w0 + 1) wr xs) (ho : wr.ownsRow (w0 + 1) 77 5 (.slice A1 xs.length c1) xs.length (xs.flatMap lmc)) (hb : w0 < wr.heap.size) (a : Addr) (ha : wr.heap.size ≤ a.block) : a.block ∉ qL ⟨w0, A1, c1, none, 0⟩ ⟨xs, [], 0⟩ := fun hm => by
  rcases mem_qL.1 hm with e | ⟨c, hc, e⟩ | ⟨c, hc, e⟩ | ⟨x, hx, e⟩ | ⟨x, hx, e⟩
  · have e : a.block = w0 := e
    omega
  · have hc : A1 = some c := hc
    have := (own_blockK ho (g := c.block) (by rw [hc]; rfl)).2.1
    omega
  · cases hc
  · have := (h.mem x hx).2.2.lt.1; omega
  · have := (h.mem x hx).2.2.lt.2; omega
set_option maxHeartbeats 8000000 in
set_option maxRecDepth 100000 in
theorem inew_any (ls : List Ln) (hl : ls.length ≤ 1048576) (A : Option Addr) (c : Nat) (w : World) (hr : Rd w A (ls.flatMap lnc)) :
    Calls Tryd.prog 6 #[.slice A ls.length c] w (RetQm ls w) := by
  have Hr := Lib.hid hr; clear hr
  go_enter Tryd.func6, Tryd.ntmps6
  go_wp2
  go_loopw [5, 17] (fun s i wr => ∃ (k : Nat) (A1 : Option Addr) (c1 : Nat) (A2 : Option Addr) (c2 : Nat) (xs : List Lq), k ≤ ls.length ∧ i = .int .i64 k ∧ s = .slice A2 k c2 ∧
    wr.heap[w.heap.size]? = some (.cells (irqC (.slice A1 k c1)) 72 (0, 0)) ∧ wr.ownsRow (w.heap.size + 1) 77 5 (.slice A1 k c1) k (xs.flatMap lmc) ∧
    wr.ownsRow (w.heap.size + 1) 3 1 (.slice A2 k c2) k (lnPrios ls k) ∧ Below w.heap.size w wr ∧ Hid (∀ j, j < k → lnMade (ls.getD j ⟨0, 0, 0, 0⟩) = true) ∧ Hid (FrL ls k (w.heap.size + 1) wr xs)) (fun _ i _ => ls.length - (intOf i).toNat)
  case atStart =>
    refine ⟨0, none, 0, some ⟨w.heap.size + 1, 0, none⟩, 0, [], by omega, rfl, by simp, ?_, own_nilK _ _ _ _, ?_, ?_, fun j hj => absurd hj (Nat.not_lt_zero _), Lib.hid ⟨rfl, fun x hx => absurd hx (by simp), fun x hx => absurd hx (by simp), by simp, by simp⟩⟩
    · exact box_alloc (heap_alloc_new w _) _
    · have h := own_empty (w.alloc (.cells (irqC (.slice none 0 0)) 72)) 3 (base := w.heap.size + 1) (by simp)
      simpa [lnPrios, irqC] using h
    · exact ((Below.refl _ _).alloc (Nat.le_refl _) _).alloc (by simp) _
  case round =>
    obtain ⟨k, A1, c1, A2, c2, xs, hk, rfl, rfl, hq, ho1, ho2, hB, hm, HF⟩ := hrel
    by_cases hlt : k < ls.length
    · obtain ⟨a, x, rfl, hx, h0, h1, h2, h3⟩ := (Hr.out.below hB).lnAt hlt
      have Hx := Lib.hid hx; clear hx
      obtain ⟨prio, top, many, window⟩ := x
      dsimp only at h0 h1 h2 h3
      by_cases hs : stOk many window = true
      · obtain ⟨⟨m1, m2⟩, m3, m4⟩ := stOk_true hs
        obtain ⟨many, rfl⟩ := Int.eq_ofNat_of_zero_le (show 0 ≤ many by omega)
        have f1 := Lib.hid (fun w => storm_mem many window w (by omega) (by omega) m3 m4)
        clear m1 m2 m3 m4
        have Hs := Lib.hid hs; clear hs
        go_wp2_with fail
        refine (f1.out _).mono ?_
        rintro e w2 ⟨p, g, rfl, hp, hg0, hm0, hb⟩
        have HF2 := Lib.hid (FrL.snoc (HF.out.tn ((Tn.refl [] wr).alloc (.cells #[.int .i64 prio, .int .i64 top, .int .i64 many, .int .i64 window] 46)) (by simp)) hb (by have := hB.size; have := box_lt hq; simp; omega) hlt Hx.out rfl hp hg0 hm0)
        clear hm0 hg0 HF
        have HX := Lib.hid (box_new hb)
        have HQ := Lib.hid (box_keep (box_alloc hq (.cells #[.int .i64 prio, .int .i64 top, .int .i64 many, .int .i64 window] 46)) hb)
        have HO1 := Lib.hid (own_belowK (own_allocK ho1 (.cells #[.int .i64 prio, .int .i64 top, .int .i64 many, .int .i64 window] 46)) hb)
        have HO2 := Lib.hid (own_belowK (own_allocK ho2 (.cells #[.int .i64 prio, .int .i64 top, .int .i64 many, .int .i64 window] 46)) hb)
        have s0 := hB.size
        have HB := Lib.hid ((hB.alloc s0 (.cells #[.int .i64 prio, .int .i64 top, .int .i64 many, .int .i64 window] 46)).trans (hb.mono (by simp; omega)))
        have s2 := hb.size
        simp at s2
        have Hlq := box_lt hq
        clear hb hq ho1 ho2 hB h0 h1 h2 h3
        obtain ⟨hx, hy⟩ := box_rules HX.out
        obtain ⟨hqx, hqy⟩ := box_rules HQ.out
        unfold irqC at hqx
        by_cases t1 : top < 1
        · go_wp2
          go_ret2
          exact retq_bad hlt (by rw [Hx.out]; simp [lnMade]; omega) HB.out
        · by_cases t2 : 1099511627776 < top
          · go_wp2
            go_ret2
            exact retq_bad hlt (by rw [Hx.out]; simp [lnMade]; omega) HB.out
          · have Hlen := Lib.hid HB.out.size
            go_wp2_with (at_builtin; first | (refine wp_appK rfl _ _ sl_line (by decide) rfl (own_allocK HO1.out _) rfl (by omega) (by simp; omega) w2.heap.size [.pointer (some ⟨p, 0, none⟩), .int .i64 0, .int .i64 0, .int .i64 0, .int .i64 0] rfl rfl (fun j u hu => new_cell hu) rfl ?_; intro A3 c3 w3 ho3 hg3 _; have G3 := Lib.hid (grown_step HO1.out hg3); have HX3 := Lib.hid (G3.out.other HX.out (by decide)); have HQ3 := Lib.hid (G3.out.low HQ.out (Nat.lt_succ_self _)); have HO3 := Lib.hid ho3; have s3 := G3.out.size; clear ho3 hg3; obtain ⟨hx3, hy3⟩ := box_rules HX3.out; obtain ⟨hqx3, hqy3⟩ := box_rules HQ3.out; unfold irqC at hqx3) | (refine wp_app1g rfl _ _ sl_int (by decide) rfl (own_allocK (own_setK (G3.out.row HO2.out (by decide)) (own_low HO2.out (Nat.lt_succ_self _)) _) _) rfl (by omega) (by simp; omega) _ (.int .i64 prio) rfl (by go_simp) rfl ?_; intro A4 c4 w4 ho4 hg4 _; have G4 := Lib.hid (grown_step (own_setK (G3.out.row HO2.out (by decide)) (own_low HO2.out (Nat.lt_succ_self _)) _) hg4); have HO4 := Lib.hid ho4; clear ho4 hg4))
            have b3 := G3.out.below HB.out (Nat.le_succ _) Hlen.out
            have s3 := G3.out.size
            have HO5 : Hid (w3.ownsRow (w.heap.size + 1) 77 5 (.slice A3 (k + 1) c3) (k + 1) ((xs ++ [lnNew ⟨prio, top, many, window⟩ p g]).flatMap lmc)) := by
              rw [List.flatMap_append]
              exact HO3
            refine ⟨⟨k + 1, A3, c3, A4, c4, xs ++ [lnNew ⟨prio, top, many, window⟩ p g], by omega, by go_num, rfl, ?_, G4.out.row (own_setK HO5.out (own_low HO3.out (Nat.lt_succ_self _)) _) (by decide), ?_, G4.out.below (b3.setCell (p := ⟨w.heap.size, 7, none⟩) (Nat.le_refl _) _) (Nat.le_succ _) (by simp; omega), ?_, Lib.hid (((HF2.out.step G3.out (by decide) (by decide)).tn ((Tn.refl [w.heap.size] _).setCell (p := ⟨w.heap.size, 7, none⟩) (by simp) _) (by simp)).step G4.out (by decide) (by decide))⟩, by simp [intOf]; omega⟩
            · exact G4.out.low (box_set HQ3.out _) (Nat.lt_succ_self _)
            · rw [lnPrios_succ hlt, Hx.out]; exact HO4.out
            · intro j hj
              by_cases he : j = k
              · subst he
                rw [Hx.out]
                simp [lnMade, Hs.out]; omega
              · exact hm.out j (by omega)
      · have hs' : stOk many window = false := by simpa using hs
        have f1 := Lib.hid (fun w => storm_bad many window w hs')
        have Hs := Lib.hid hs'; clear hs hs'
        go_wp2_with (refine (f1.out _).mono ?_; rintro e w2 ⟨rfl, rfl⟩)
        go_ret2
        refine retq_bad hlt (by rw [Hx.out]; simp [lnMade, Hs.out]) (hB.alloc hB.size _)
    · obtain rfl : k = ls.length := by omega
      have hxl := HF.out.len (Nat.le_refl _)
      have Hq := Lib.hid hq; clear hq
      have HB := Lib.hid hB; clear hB
      have HO := Lib.hid ho1
      have lq := box_lt Hq.out
      have bR : w.heap.size ≤ w.heap.size := Nat.le_refl _
      rw [← hxl] at HO
      have HXl := Lib.hid hxl
      clear ho1 hxl
      by_cases hn : ls.length = 0
      · have hls : ls = [] := List.eq_nil_of_length_eq_zero hn
        have hxs : xs = [] := List.eq_nil_of_length_eq_zero (by rw [HXl.out, hn])
        have hn0 : ((ls.length : Int) == 0) = true := by simp [hls]
        have f1 : Hid (∀ w, Calls Tryd.prog 27 #[.int .i64 0, .int .i64 0] w fun e w' => e = .returned (.int .u64 ((gB 1 : Nat) : Int)) ∧ w = w') := Lib.hid (fun w => between_g 1 (by omega) w)
        have f2 := Lib.hid (fun A c w hr => make_any (gB 1) (mk_lt _) [1] (by simp) A c w hr)
        have M : Hid (makeC (gB 1) [1] = (freshC (gB 1) [1], 0)) := Lib.hid (makeC_ok (fresh_ok (l := [1]) ⟨by decide, by decide, by decide⟩))
        rw [M.out] at f2
        have hw0 := Lib.hid (show irqWhy ls = 0 by subst hls; rfl)
        have HN1 : Hid (qPrio ⟨xs, [], 0⟩ = [1]) := Lib.hid (by subst hxs; rfl)
        have HG1 : Hid (gB (qN ⟨xs, [], 0⟩) = gB 1) := Lib.hid (by subst hxs; rfl)
        obtain ⟨e0, he0⟩ : ∃ e0 : Int, e0 = ((freshC (gB 1) [1]).e : Int) := ⟨_, rfl⟩
        have HE0 := Lib.hid he0
        have HEq : Hid (e0 = ((qIC ⟨xs, [], 0⟩).e : Int)) := Lib.hid (by rw [he0, (fresh_qIC HF.out.new).1, HG1.out, HN1.out])
        clear hls hxs M he0
        have HNq : Hid (∀ a : Addr, wr.heap.size ≤ a.block → a.block ∉ qL ⟨w.heap.size, A1, c1, none, 0⟩ ⟨xs, [], 0⟩) := Lib.hid (qL_fresh HF.out HO.out (box_lt Hq.out))
        generalize gB 1 = g1 at *
        go_wp2_with fail
        refine (f1.out _).mono ?_
        rintro e w5 ⟨rfl, rfl⟩
        go_wp2_with fail
        refine (f2.out _ _ _ ?_).mono ?_
        · intro j u hu
          exact ⟨_, rfl, by rw [add_zero_lit, Nat.zero_add]; exact new_cell hu⟩
        rintro e w6 h6
        obtain ⟨pA, pc, sA, sc, rfl, hp6, hb, hn6⟩ := reti_ok2 e0 HE0.out h6
        have HQ6 := Lib.hid (box_keep (box_alloc Hq.out (.cells #[.int .i64 1] 3)) hb)
        have HB6 := Lib.hid ((HB.out.alloc HB.out.size (.cells #[.int .i64 1] 3)).trans (hb.mono (by have := HB.out.size; simp; omega)))
        have HF6 := Lib.hid ((HF.out.tn ((Tn.refl [] wr).alloc (.cells #[.int .i64 1] 3)) (by simp)).tn (Tn.of_below [] hb) (by simp))
        have HO6 := Lib.hid (own_belowK (own_allocK HO.out (.cells #[.int .i64 1] 3)) hb)
        have HP6 := Lib.hid hp6
        have HN6 := Lib.hid hn6
        clear hb h6 hp6 hn6
        have lq6 := box_lt HQ6.out
        obtain ⟨hx6, hy6⟩ := box_rules HQ6.out
        unfold irqC at hx6
        go_wp2_with fail
        go_ret2
        have hq := HQ6.out
        unfold irqC at hq
        rw [← HXl.out] at hq
        obtain ⟨hE7, hT7⟩ := set7 hq (.int .u64 0) (.int .u64 e0) (.int .u64 0) (.int .u64 (g1 : Int)) (.slice pA 1 pc) (.int .i64 0) (.slice sA 0 sc)
        have hT8 := hT7.alloc (.cells #[.int .u64 0, .int .u64 e0, .int .u64 0, .int .u64 (g1 : Int), .slice pA 1 pc, .int .i64 0, .slice sA 0 sc] 68)
        have hB8 := hT8.base HB6.out (fun k hk => by rw [List.mem_singleton.1 hk]; exact Nat.le_refl _) HB6.out.size
        have hle := HB.out.size
        exact retq_ok HF6.out hw0.out hT8 (Nat.lt_succ_self _) (by rw [HN1.out]; decide) HEq.out (by rw [HN1.out]; exact HP6.out) (fun a ha => by have := HN6.out.1 a ha; (try simp at this); omega) (fun a ha => HNq.out a (by have := HN6.out.1 a ha; (try simp at this); omega)) HO6.out hB8 (box_alloc (by rw [HG1.out, HN1.out]; exact hE7) _)
      · have hn0 : ((ls.length : Int) == 0) = false := beq_eq_false_iff_ne.2 (by omega)
        have hn1 : 1 ≤ ls.length := by omega
        have f1 := Lib.hid (fun w => between_g ls.length (by omega) w)
        have f2 := Lib.hid (fun A c w hr => make_any (gB ls.length) (mk_lt _) (ls.map (·.prio)) (by rw [List.length_map]; omega) A c w hr)
        have F := Lib.hid (fresh_ok (l := ls.map (·.prio)))
        have F' := Lib.hid (fresh_only (l := ls.map (·.prio)))
        have P2 : Hid (Rd wr A2 ((ls.map (·.prio)).map (.int .i64))) := by
          have h := own_rdK ho2
          rw [lnPrios, List.take_length] at h
          rw [List.map_map]
          exact h
        simp only [List.length_map] at f2 F F'
        have HN1 : Hid (qPrio ⟨xs, [], 0⟩ = ls.map (·.prio)) := Lib.hid (by
          unfold qPrio
          rw [if_neg (by rw [HXl.out]; exact hn)]
          have h9 := HF.out.how
          rw [List.take_length] at h9
          rw [← h9, List.map_map]; rfl)
        have HG1 : Hid (gB (qN ⟨xs, [], 0⟩) = gB ls.length) := Lib.hid (by
          have : qN ⟨xs, [], 0⟩ = ls.length := by unfold qN; rw [if_neg (by rw [HXl.out]; exact hn)]; exact HXl.out
          rw [this])
        obtain ⟨e0, he0⟩ : ∃ e0 : Int, e0 = ((freshC (gB ls.length) (ls.map (·.prio))).e : Int) := ⟨_, rfl⟩
        have HE0 := Lib.hid he0
        have HEq : Hid (e0 = ((qIC ⟨xs, [], 0⟩).e : Int)) := Lib.hid (by rw [he0, (fresh_qIC HF.out.new).1, HG1.out, HN1.out])
        clear he0
        have HNq : Hid (∀ a : Addr, wr.heap.size ≤ a.block → a.block ∉ qL ⟨w.heap.size, A1, c1, none, 0⟩ ⟨xs, [], 0⟩) := Lib.hid (qL_fresh HF.out HO.out (box_lt Hq.out))
        generalize gB ls.length = g1 at *
        by_cases hk : (freshC g1 (ls.map (·.prio))).ok
        · have HK := Lib.hid (F'.out hk)
          rw [makeC_ok hk] at f2
          clear hk F F'
          have hw0 := Lib.hid (irq_good hm.out HK.out)
          go_wp2_with fail
          refine (f1.out _).mono ?_
          rintro e w5 ⟨rfl, rfl⟩
          go_wp2_with fail
          refine (f2.out _ _ _ P2.out).mono ?_
          rintro e w6 h6
          obtain ⟨pA, pc, sA, sc, rfl, hp6, hb, hn6⟩ := reti_ok2 e0 HE0.out h6
          have HQ6 := Lib.hid (box_keep Hq.out hb)
          have HB6 := Lib.hid (HB.out.trans (hb.mono HB.out.size))
          have HF6 := Lib.hid (HF.out.tn (Tn.of_below [] hb) (by simp))
          have HO6 := Lib.hid (own_belowK HO.out hb)
          have HP6 := Lib.hid hp6
          have HN6 := Lib.hid hn6
          clear hb h6 hp6 hn6
          have lq6 := box_lt HQ6.out
          obtain ⟨hx6, hy6⟩ := box_rules HQ6.out
          unfold irqC at hx6
          go_wp2_with fail
          go_ret2
          have hq := HQ6.out
          unfold irqC at hq
          rw [← HXl.out] at hq
          obtain ⟨hE7, hT7⟩ := set7 hq (.int .u64 0) (.int .u64 e0) (.int .u64 0) (.int .u64 (g1 : Int)) (.slice pA ls.length pc) (.int .i64 0) (.slice sA 0 sc)
          have hT8 := hT7.alloc (.cells #[.int .u64 0, .int .u64 e0, .int .u64 0, .int .u64 (g1 : Int), .slice pA ls.length pc, .int .i64 0, .slice sA 0 sc] 68)
          have hB8 := hT8.base HB6.out (fun k hk => by rw [List.mem_singleton.1 hk]; exact Nat.le_refl _) HB6.out.size
          have hle := HB.out.size
          exact retq_ok HF6.out hw0.out hT8 (Nat.lt_succ_self _) (by rw [HN1.out]; rw [List.length_map]; omega) HEq.out (by rw [HN1.out]; exact HP6.out) (fun a ha => by have := HN6.out.1 a ha; (try simp at this); omega) (fun a ha => HNq.out a (by have := HN6.out.1 a ha; (try simp at this); omega)) HO6.out hB8 (box_alloc (by rw [HG1.out, HN1.out]; rw [List.length_map]; exact hE7) _)
        · rw [makeC_bad hk] at f2
          have hw0 := Lib.hid (irq_bad (fun h => hk (F.out h)))
          clear hk F F'
          go_wp2_with fail
          refine (f1.out _).mono ?_
          rintro e w5 ⟨rfl, rfl⟩
          go_wp2_with fail
          refine (f2.out _ _ _ P2.out).mono ?_
          rintro e w6 h6
          obtain ⟨pA, pc, sA, sc, rfl, hb⟩ := reti_bad h6
          have HB6 := Lib.hid (HB.out.trans (hb.mono HB.out.size))
          clear hb h6
          go_wp2_with fail
          go_ret2
          unfold RetQm
          rw [if_neg (by rw [hw0.out]; decide)]
          refine ⟨rfl, ?_⟩
          repeat (with_reducible first | refine Below.setCell ?_ bR _ | refine Below.drew ?_ | refine Below.alloc ?_ HB6.out.size _ | exact HB6.out)
end Go.Proofs.YtpncbkodhojicaaDoor

/- Package rta: the walk of (*sheet).loads. Conditions: lists that read. -/
import Derived.Test.YtgampofpabllbaaGreatRtO
import Derived.Test.YtgampofpabllbaaGreatRound
namespace Go.Proofs.YtgampofpabllbaaGreat
open Go.RowKit Go.Shelf
attribute [local go_sem] Oper.semAt_some

section
variable {P : Program} {w : World}
/-- append(out, xs...): out is the call's own row of structs, xs whatever slice of such (nil too); what turns is the row's own block. -/
theorem wp_appNG {ops : Array Oper} {rest : List Oper} {o : Oper} {a : Act} {Q : Exit → Act → World → Prop} (hgd : o.guard = none) (s x : Operand) {t e : TypeId} {k bytes : Nat}
    (T : SlK P t e k bytes) (hb : bytes ≤ 128) (ho : o.op = .call { callee := .builtin .append, args := #[s, x], argTypes := #[t, t] })
    {base : Nat} {v : Value} {n : Nat} {xs : List Value} (hown : w.ownsRow base e k v n xs) (hs : a.eval s = v) (hbase : base ≤ w.heap.size)
    (A : Option Addr) (m c : Nat) (vs : List Value) (hx : a.eval x = .slice A m c) (hl : vs.length = m * k) (hr : Rd w A vs) (h1 : ∀ u ∈ vs, u.oneCell' = true) (hn : n + m ≤ 1099511627776)
    (h : ∀ A c w', w'.ownsRow base e k (.slice A (n + m) c) (n + m) (xs ++ vs) → w.grownBy w' v.ownBlock → wpList P ops Q rest (a.put o.dst (.slice A (n + m) c)) w') : wpList P ops Q (o :: rest) a w := by
  obtain ⟨i, z, hi, hz, hs1, hby, hzs⟩ := T.hi
  rcases A with _ | ad
  · have hv : vs = [] := by
      cases vs with
      | nil => rfl
      | cons y ys => obtain ⟨a', ha, _⟩ := hr 0 y rfl; cases ha
    subst hv
    have hm : m = 0 := by
      have h0 := T.h0
      have : m * k = 0 := by simpa using hl.symm
      rcases Nat.mul_eq_zero.1 this with h | h
      · exact h
      · omega
    subst hm
    refine wpList_plain hgd fun K hK => ?_
    unfold Oper.wp execOp
    have hrun : (Builtin.append_ #[t, t] o.type #[v, .slice none 0 c]).run P w = .ok v w := by
      rcases hown.2 with ⟨rfl, rfl⟩ | ⟨g, cap, cur, rfl, _, _, hnc, _⟩
      · simp [Builtin.append_, run_underlying T.ht, sizeOf, typeInfo, hi, Builtin.lenOf, Builtin.firstCells]
      · simp [Builtin.append_, run_underlying T.ht, sizeOf, typeInfo, hi, Builtin.lenOf, Builtin.firstCells, hnc, storeCells]
    simp only [ho, resolve, invoke, builtin, Sem.run_bind, Sem.run_pure, Result.andThen_ok, List.map_toArray, List.map_cons, List.map_nil, hs, hx, hrun]
    obtain ⟨A', c', hv', _⟩ := own_sliceK hown
    subst hv'
    exact hK _ _ (h A' c' w (by simpa using hown) ⟨rfl, rfl, rfl, Nat.le_refl _, fun _ _ _ => rfl⟩)
  · refine wpList_append_own w hgd s x t ho base e i z k bytes T.ht hi hz hs1 hby hzs T.h0 v n xs hs hown ad m c vs hx hl ?_ h1 ?_ ?_ hbase ?_
    · intro j u hu
      obtain ⟨a', ha, hc⟩ := hr j u hu
      cases ha; exact hc
    · unfold maxLen; omega
    · calc (n + m) * bytes ≤ (n + m) * 128 := Nat.mul_le_mul_left _ hb
        _ ≤ _ := by omega
    · intro v' w' hown' hg _
      obtain ⟨A, c', rfl, _⟩ := own_sliceK hown'
      exact h A c' w' hown' hg
end
theorem ldc_len : ∀ l : List Ld, (l.flatMap ldc).length = l.length * 4
  | [] => rfl
  | x :: xs => by
    rw [List.flatMap_cons, List.length_append, ldc_len xs, List.length_cons]
    show 4 + _ = _
    omega
theorem ldc_one (l : List Ld) : ∀ u ∈ l.flatMap ldc, u.oneCell' = true := fun u hu => by
  obtain ⟨x, _, h⟩ := List.mem_flatMap.1 hu
  simp only [ldc, List.mem_cons, List.not_mem_nil, or_false] at h
  rcases h with rfl | rfl | rfl | rfl <;> rfl
theorem sheetUrgent_any (b : Nat) (w : World) :
    Calls Tryz.prog 117 #[.pointer (some ⟨b, 0, none⟩)] w fun e w' =>
      e = .returned (.func (.func 131) #[] #[.pointer (some ⟨w.heap.size, 0, none⟩)]) ∧ w.alloc (.cells #[.pointer (some ⟨b, 0, none⟩)] 135) = w' := by
  go_enter Tryz.func117, Tryz.ntmps117
  go_wp2
  go_ret
  exact ⟨rfl, rfl⟩
theorem supL_len (hs : List Th) (ls : List Ln) (p : Int) : (supL hs ls p).length ≤ hs.length + ls.length := by
  unfold supL
  rw [List.length_append, supLn_len]
  have := supT_len hs p hs.length
  omega
/-- What the loop over all that is urgent holds. -/
structure LoI (w : World) (pre : List Ld) (W : World) : Prop where
  row : ∃ A c, W.heap[w.heap.size]? = some (.cells #[.slice A pre.length c] 76 (0, 0)) ∧ W.ownsRow (w.heap.size + 2) 109 4 (.slice A pre.length c) pre.length (pre.flatMap ldc)
  low : Below w.heap.size w W
  size : w.heap.size + 2 ≤ W.heap.size
theorem loI_own {w : World} {B : Nat} (hB : w.heap.size + 1 ≤ B) : OwnFrom B (LoI w) := fun pre W W' row h hg hr => by
  obtain ⟨A, c, h1, h2⟩ := h.row
  exact ⟨⟨A, c, ownFrom_box (β := Unit) (by omega) () W W' row h1 hg hr, ownFrom_row (β := Unit) (fun _ => _) (fun _ => _) (fun _ => _) () W W' row h2 hg hr⟩, ownFrom_below (β := Unit) (by omega) (Nat.le_refl _) () W W' row h.low hg hr, Nat.le_trans h.size hg.size⟩
def LoX (_w : World) (_c : Code) (_pre : List Ld) (_W : World) : Prop := False
set_option maxHeartbeats 4000000 in
set_option maxRecDepth 100000 in
theorem loads_any (mn mx sw : Int) (ts : List Tk) (A : Option Addr) (ca : Nat) (B : Option Addr) (ls : List Ln) (cb : Nat) (D : Option Addr) (hs : List Th) (cd : Nat) (t : Tk) (b : Nat) (hl : ts.length ≤ 1048576) (hts : ∀ x ∈ ts, TkIn x sw)
    (hsw : 0 ≤ sw ∧ sw ≤ 1099511627776) (hmn : 1 ≤ mn ∧ mn ≤ 2147483648) (hlh : hs.length ≤ 1048576) (hll : ls.length ≤ 1048576) (hth : ∀ x ∈ hs, ThIn x) (hln : ∀ x ∈ ls, LnIn x) (w : World)
    (ht : Rd w A (ts.flatMap tkc)) (hlr : Rd w B (ls.flatMap lnc)) (hhr : Rd w D (hs.flatMap thc))
    (hc : w.heap[b]? = some (.cells (shc mn mx sw A ts.length ca B ls.length cb D hs.length cd t) 140 (0, 0))) :
    Calls Tryz.prog 91 #[.pointer (some ⟨b, 0, none⟩)] w (RetL (loadsL mn sw ts ls hs t.prio) w) := by
  have Ht := Lib.hid ht; have Hl := Lib.hid hlr; have Hh := Lib.hid hhr; have HC := Lib.hid hc
  have hbl := box_lt hc
  have f1 := Lib.hid (fun b w => sheetUrgent_any b w)
  have f2 := Lib.hid (fun w hh hl => sloads_any hs ls t.prio hlh hll hth hln D B cd cb w hh hl)
  have IT := Lib.hid (fun b1 n1 out w0 w h0 k1 k2 q1 q2 hb hb1 ht => urg_iter mn mx sw ts A ca B ls.length cb D hs.length cd t b b1 n1 out w0 w hl hts hsw hmn h0 k1 k2 q1 q2 hb hb1 ht)
  have HL : Hid (loadsL mn sw ts ls hs t.prio = urgL mn sw ts t.prio ts.length ++ supL hs ls t.prio) := Lib.hid rfl
  have hul := urgL_len mn sw ts t.prio ts.length
  have hsl := supL_len hs ls t.prio
  clear ht hlr hhr hc
  generalize loadsL mn sw ts ls hs t.prio = L at *
  generalize supL hs ls t.prio = SL at *
  refine calls_marks Tryz.func91 rfl ?_
  simp only [Tryz.ntmps91, List.size_toArray, List.length_cons, List.length_nil, Nat.reduceAdd, Nat.reduceSub, Array.replicate_succ, Array.replicate_zero, List.push_toArray, List.append_toArray, List.nil_append, List.cons_append]
  go_wp2_with (go_at_call 117; refine (f1.out _ _).mono ?_; rintro e w' ⟨rfl, rfl⟩)
  refine name_world fun W6 hW6 => ?_
  have x0 : W6.heap[w.heap.size]? = some (.cells #[.slice none 0 0] 76 (0, 0)) := by rw [hW6]; exact box_alloc (heap_alloc_new _ _) _
  have x1 : W6.heap[w.heap.size + 1]? = some (.cells #[.pointer (some ⟨b, 0, none⟩)] 135 (0, 0)) := by rw [hW6]; exact heap_new_at _ (by simp)
  have hs6 : w.heap.size + 2 = W6.heap.size := by rw [hW6]; simp
  have hB6 : Below w.heap.size w W6 := by rw [hW6]; exact ((Below.refl _ _).alloc (Nat.le_refl _) _).alloc (by simp) _
  have hit := IT.out (w.heap.size + 1) (w.heap.size + 2) [w.heap.size] w W6 hB6 (by omega) (by omega) (by simp; omega) (by simp) (box_keep HC.out hB6) x1 Ht.out
  have hI0 : LoI w [] W6 := ⟨⟨none, 0, x0, own_nilK _ _ _ _⟩, hB6, by omega⟩
  clear hW6 x0 x1 IT
  refine (wpIn_wide (n := 9)).1 (wpIn_rangeFunc_ownH (F := Fence.wide) (n := 9) rfl (by omega) rfl trivial (enters_of Tryz.func131 (by kernel_rfl) rfl) hit (fun h k => h.trans k) (KeepsLow.put (by omega)) (Below.refl _ _) (fun _ => rfl)
    (LoI w) (LoX w) (loI_own (by omega)) (fun _ _ _ _ _ h _ _ => h.elim) hI0
    (fun x a' W => ∃ bx, w.heap.size + 2 ≤ bx ∧ W.heap[bx]? = some (.cells #[.int .i64 x.per, .int .i64 x.jit, .int .i64 x.ap, .int .i64 x.cost] 109 (0, 0)) ∧ a' = { tmps := #[.pointer (some ⟨b, 0, none⟩), undef, .slice none 0 0, .int .i64 0, .pointer (some ⟨w.heap.size, 0, none⟩), .pointer (some ⟨bx, 0, none⟩), undef, undef, .pointer (some ⟨b, 0, none⟩), .func (.func 131) #[] #[.pointer (some ⟨w.heap.size + 1, 0, none⟩)], ldv x, undef, undef, undef, undef, undef, undef, undef, undef, undef, undef, undef, undef, undef, undef, undef, undef, undef, undef, undef, undef, undef, undef, undef, undef, undef, undef, undef], defers := [] })
    (fun x a' s W W' row hs hg hr => by
      obtain ⟨bx, h1, h2, h3⟩ := hs
      exact ⟨bx, h1, box_grown hg h2 (fun e => by obtain ⟨_, o, ho, hc⟩ := hr _ e; rw [h2] at ho; cases ho; cases hc), h3⟩)
    ?assign ?body ?done ?stop)
  case assign =>
    rintro l' pre ⟨v1, v2, v3, v4⟩ W K hI hK
    have HI := Lib.hid hI
    clear hI hit hI0
    dsimp only [ldv]
    gi_wp2
    have hal : Below W.heap.size W (W.alloc (.cells #[.int .i64 v1, .int .i64 v2, .int .i64 v3, .int .i64 v4] 109)) := (Below.refl _ _).alloc (Nat.le_refl _) _
    refine hK _ _ ((ko_alloc (KeepsOthers.refl W) _).from _) ((KeepsLow.refl _).alloc (by have := HI.out.size; omega) _) ?_ ⟨W.heap.size, HI.out.size, heap_alloc_new _ _, rfl⟩
    obtain ⟨A1, c1, h1, h2⟩ := HI.out.row
    exact ⟨⟨A1, c1, box_keep h1 hal, own_allocK h2 _⟩, HI.out.low.alloc HI.out.low.size _, Nat.le_trans HI.out.size hal.size⟩
  case body =>
    rintro l' pre ⟨v1, v2, v3, v4⟩ a' W hl' _ hI ⟨bx, hbx, hb0, rfl⟩ hlen
    clear hit hI0 hB6
    obtain ⟨A1, c1, hbox, hrow⟩ := hI.row
    obtain ⟨sx, sy⟩ := box_rules hbox
    obtain ⟨bxx, bxy⟩ := box_rules hb0
    have HI := Lib.hid hI; have HBx := Lib.hid hbox; have HRow := Lib.hid hrow
    clear hI hbox hrow hb0
    dsimp only [ldv]
    gi_wp2_with (gi_at_builtin; go_loud (refine wpI_appK rfl _ _ sk_ld (by decide) rfl (own_allocK HRow.out _) rfl (by omega) (by have := HI.out.size; simp; omega) W.heap.size [.int .i64 v1, .int .i64 v2, .int .i64 v3, .int .i64 v4] rfl rfl ?_ rfl ?_); (intro j u hu; exact new_cell (w := W) hu); intro A4 c4 w4 ho4 hg4; have G4 := Lib.hid (grown_step HRow.out hg4); have HO4 := Lib.hid ho4; have HG4 := Lib.hid hg4; have HBx4 := Lib.hid (G4.out.low HBx.out (by omega)); obtain ⟨sx4, sy4⟩ := box_rules HBx4.out; clear ho4 hg4 sx sy bxx bxy)
    have hsz := HI.out.size
    refine ⟨?_, ?_, ⟨⟨A4, c4, ?_, ?_⟩, ?_, ?_⟩⟩
    · exact (ko_set (ko_step HRow.out HG4.out) _ _).from _
    · exact (KeepsLow.step (nA := w.heap.size) (n1 := w.heap.size + 2) (out := [w.heap.size]) HRow.out HG4.out (by omega) (by omega) (Nat.le_refl _)).set (p := ⟨w.heap.size, 0, none⟩) (Nat.le_refl _) (.inl (by simp)) _
    · rw [List.length_append]
      exact box_set (t := 76) (cs := #[.slice A1 pre.length c1]) (i := 0) HBx4.out _
    · rw [List.length_append, List.flatMap_append]
      exact own_setK HO4.out (own_low HO4.out (by show w.heap.size < _; omega)) _
    · exact (G4.out.below HI.out.low (by omega) (by omega)).setCell (p := ⟨w.heap.size, 0, none⟩) (Nat.le_refl _) _
    · have := G4.out.size
      simp only [World.setCell, Array.size_modify]
      omega
  case done =>
    intro D' xs W hD hS hI hK
    have hxl : xs.length ≤ 1048576 := by rw [hS]; omega
    have HXs := Lib.hid hS
    obtain ⟨A1, c1, hbox, hrow⟩ := hI.row
    have HI := Lib.hid hI; have HRow := Lib.hid hrow; have HK := Lib.hid hK
    have HC1 := Lib.hid (box_keep HC.out HI.out.low)
    have HBx := Lib.hid hbox
    clear hI hbox hrow hit hI0 hB6 hK hS hul
    obtain ⟨t0, p, t2, t3, t4, t5, t6, t7, t8, t9⟩ := t
    unfold shc at HC1
    dsimp only at HC1 HXs HL f2
    have hR := fun w' (h : Hid (Below W.heap.size W w')) => (box_rules (box_keep HC1.out h.out)).1
    have hR2 := fun w' (h : Hid (Below W.heap.size W w')) => (box_rules (box_keep HBx.out h.out)).1
    have mH := Lib.hid (fun w' (h : Hid (Below W.heap.size W w')) => (Hh.out.below HI.out.low).below h.out)
    have mL := Lib.hid (fun w' (h : Hid (Below W.heap.size W w')) => (Hl.out.below HI.out.low).below h.out)
    have hS0 := S_refl' W
    generalize urgL mn sw ts p ts.length = U at *
    dsimp only
    go_wp2_with fail
    go_region_held3 (fun w' => Hid (Below W.heap.size W w')) ((first | assumption | exact S_alloc' (by assumption) _ | exact S_drew' (by assumption) | exact S_drew' (S_alloc' (by assumption) _))) ((go_at_call 118; refine (f2.out _ (mH.out _ (by assumption)) (mL.out _ (by assumption))).mono ?_; rintro e w' ⟨A5, c5, rfl, hr5, hb⟩; have hk := S_call' (W := W) (by assumption) hb; have HR5 := Lib.hid hr5; clear hb hr5))
    have hk9 : Hid (Below W.heap.size W w') := by assumption
    have hr9 : Hid (Rd w' A5 (SL.flatMap ldc)) := by assumption
    clear hR hR2 mH mL hS0
    have HO := Lib.hid (own_belowK HRow.out hk9.out)
    have HBx9 := Lib.hid (box_keep HBx.out hk9.out)
    have HK9 := Lib.hid ((hk9.out.block D' (box_lt HK.out)).trans HK.out)
    have HB9 := Lib.hid (HI.out.low.trans (hk9.out.mono HI.out.low.size))
    have hs9 : w.heap.size + 2 ≤ w'.heap.size := Nat.le_trans HI.out.size hk9.out.size
    obtain ⟨ox, oy⟩ := box_rules HBx9.out
    clear HRow HBx HK HI HC1
    go_wp2_with (at_builtin; go_loud (refine wp_appNG rfl _ _ sk_ld (by decide) rfl HO.out rfl hs9 A5 SL.length c5 _ rfl (ldc_len SL) hr9.out (ldc_one SL) (by omega) ?_); intro A6 c6 w6 ho6 hg6; have HO6 := Lib.hid ho6; have HG6 := Lib.hid hg6; clear ho6 hg6)
    have hK6 : w6.heap[D']? = some (.deferred (some [])) := box_grown HG6.out HK9.out (fun e => by
      obtain ⟨_, _, cur, hcur⟩ := own_blockK HO.out e
      rw [HK9.out] at hcur; cases hcur)
    have hB6 : Below w.heap.size w w6 := HB9.out.grown HG6.out HB9.out.size (fun k hk => Nat.le_trans (Nat.le_add_right _ 2) (HO.out.lt k hk).1)
    refine post_mark (v := .tuple #[.slice A6 (xs.length + SL.length) c6, .int .i64 0]) hK6 (by simp [results, Tryz.f91, go_sem]) ?_
    refine ⟨A6, c6, by rw [HL.out, ← HXs.out, List.length_append], ?_, hB6.trans ((Below.refl _ _).grown (grownBy_putObj' _ D' _) hB6.size (fun k e => by cases e; omega))⟩
    rw [HL.out, ← HXs.out, List.flatMap_append]
    exact own_rdK (own_keptK HO6.out fun g hg => by
      obtain ⟨_, _, cur, hcur⟩ := own_blockK HO6.out hg
      exact World.putObj_heap_other (fun e => by rw [e, hK6] at hcur; cases hcur))
  case stop =>
    intro D' c' pre W hD hS hX hK
    exact hX.elim
end Go.Proofs.YtgampofpabllbaaGreat

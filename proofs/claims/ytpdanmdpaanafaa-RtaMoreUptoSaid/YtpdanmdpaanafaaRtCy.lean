/- Package vergeref26: the walk of Copy. Conditions: lists that read. -/
import Derived.Test.YtpdanmdpaanafaaRtWiP
namespace Go.Proofs.Ytpdanmdpaanafaa
open Go.RowKit Go.Shelf

theorem skc_tk : SlK Try.prog 24 44 10 80 := SlK.mk' (z := .agg #[.int .u8 0, .int .i64 0, .int .i64 0, .int .i64 0, .int .i64 0, .int .i64 0, .int .i64 0, .int .i64 0, .int .i64 0, .int .i64 0]) Try.underlying24 (by kernel_rfl) rfl (by decide)
theorem skc_ln : SlK Try.prog 25 68 4 32 := SlK.mk' (z := .agg #[.int .i64 0, .int .i64 0, .int .i64 0, .int .i64 0]) Try.underlying25 (by kernel_rfl) rfl (by decide)
theorem skc_th : SlK Try.prog 26 46 4 32 := SlK.mk' (z := .agg #[.int .i64 0, .int .i64 0, .int .i64 0, .int .i64 0]) Try.underlying26 (by kernel_rfl) rfl (by decide)
theorem flat_len {α : Type} {f : α → List Value} {k : Nat} (hk : ∀ x, (f x).length = k) : ∀ l : List α, (l.flatMap f).length = l.length * k
  | [] => by simp
  | x :: l => by rw [List.flatMap_cons, List.length_append, flat_len hk l, hk, List.length_cons, Nat.add_mul]; omega
theorem flat_one {α : Type} {f : α → List Value} (hk : ∀ x, ∀ u ∈ f x, u.oneCell' = true) (l : List α) : ∀ u ∈ l.flatMap f, u.oneCell' = true := fun u hu => by
  obtain ⟨x, _, h⟩ := List.mem_flatMap.1 hu
  exact hk x u h
theorem tkc_one (x : Tk) : ∀ u ∈ tkc x, u.oneCell' = true := fun u h => by
  simp only [tkc, List.mem_cons, List.not_mem_nil, or_false] at h
  rcases h with rfl | rfl | rfl | rfl | rfl | rfl | rfl | rfl | rfl | rfl <;> rfl
theorem lnc_one (x : Ln) : ∀ u ∈ lnc x, u.oneCell' = true := fun u h => by
  simp only [lnc, List.mem_cons, List.not_mem_nil, or_false] at h
  rcases h with rfl | rfl | rfl | rfl <;> rfl
theorem thc_one' (x : Th) : ∀ u ∈ thc x, u.oneCell' = true := fun u h => by
  simp only [thc, List.mem_cons, List.not_mem_nil, or_false] at h
  rcases h with rfl | rfl | rfl | rfl <;> rfl
/-- A copy: three rows of its own. -/
def RetCy (mn mx sw : Int) (ts : List Tk) (ls : List Ln) (hs : List Th) (w : World) (e : Ending) (w' : World) : Prop :=
  ∃ (A : Option Addr) (ca : Nat) (B : Option Addr) (cb : Nat) (D : Option Addr) (cd : Nat), e = .returned (cfv mn mx sw A ts.length ca B ls.length cb D hs.length cd) ∧
    w'.ownsRow w.heap.size 44 10 (.slice A ts.length ca) ts.length (ts.flatMap tkc) ∧ w'.ownsRow w.heap.size 68 4 (.slice B ls.length cb) ls.length (ls.flatMap lnc) ∧
    w'.ownsRow w.heap.size 46 4 (.slice D hs.length cd) hs.length (hs.flatMap thc) ∧ Below w.heap.size w w'
set_option maxHeartbeats 4000000 in
set_option maxRecDepth 100000 in
theorem copy26_any (mn mx sw : Int) (ts : List Tk) (ls : List Ln) (hs : List Th) (A : Option Addr) (ca : Nat) (B : Option Addr) (cb : Nat) (D : Option Addr) (cd : Nat) (w : World)
    (hlt0 : ts.length ≤ 1048576) (hll : ls.length ≤ 1048576) (hlh : hs.length ≤ 1048576)
    (ht : Rd w A (ts.flatMap tkc)) (hl : Rd w B (ls.flatMap lnc)) (hh : Rd w D (hs.flatMap thc)) :
    Calls Try.prog 31 #[cfv mn mx sw A ts.length ca B ls.length cb D hs.length cd] w (RetCy mn mx sw ts ls hs w) := by
  have Ht := Lib.hid ht; have Hl := Lib.hid hl; have Hh := Lib.hid hh
  have L1 := Lib.hid (flat_len (f := tkc) (k := 10) (fun _ => rfl) ts)
  have L2 := Lib.hid (flat_len (f := lnc) (k := 4) (fun _ => rfl) ls)
  have L3 := Lib.hid (flat_len (f := thc) (k := 4) (fun _ => rfl) hs)
  have O1 := Lib.hid (flat_one tkc_one ts)
  have O2 := Lib.hid (flat_one lnc_one ls)
  have O3 := Lib.hid (flat_one thc_one' hs)
  clear ht hl hh
  unfold cfv RetCy
  generalize hF1 : ts.flatMap tkc = F1 at *
  generalize hF2 : ls.flatMap lnc = F2 at *
  generalize hF3 : hs.flatMap thc = F3 at *
  clear hF1 hF2 hF3
  go_enter Try.func31, Try.ntmps31
  go_upto_region 1 with fail
  refine name_world fun W hW => ?_
  have HC : Hid (W.heap[w.heap.size]? = some (.cells #[.int .i64 mn, .int .i64 mx, .int .i64 sw, .slice A ts.length ca, .slice B ls.length cb, .slice D hs.length cd] 28 (0, 0))) := Lib.hid (by rw [hW]; exact box_alloc (heap_alloc_new w _) _)
  have HR : Hid (W.heap[w.heap.size + 1]? = some (.cells #[.int .i64 0, .int .i64 0, .int .i64 0, .slice none 0 0, .slice none 0 0, .slice none 0 0] 28 (0, 0))) := Lib.hid (by rw [hW]; exact heap_new_at _ (by simp))
  have HB : Hid (Below w.heap.size w W) := Lib.hid (by rw [hW]; exact ((Below.refl _ _).alloc (Nat.le_refl _) _).alloc (by simp) _)
  have hs0 : W.heap.size = w.heap.size + 2 := by rw [hW]; simp
  clear hW
  generalize hb0 : w.heap.size = b0 at *
  obtain ⟨cx, cy⟩ := box_rules HC.out
  have hE1 : Hid ((W.alloc (.cells #[] 44)).ownsRow (b0 + 2) 44 10 (.slice (some ⟨(b0 + 2), 0, none⟩) 0 0) 0 []) := Lib.hid (by
    have h := own_emptyK W 44 (k := 10) (Nat.le_refl _)
    rw [hs0] at h; exact h)
  go_upto_region 2 with (at_builtin; go_loud (refine wp_appNK rfl _ _ skc_tk (by decide) rfl hE1.out rfl (by simp; omega) A ts.length ca _ rfl L1.out ((Ht.out.below (by rw [hb0]; exact HB.out)).alloc _) O1.out (by omega) ?_); intro A1 c1 v1 ho hb; have HCv1 := Lib.hid ((hb.block b0 (by omega)).trans (box_alloc HC.out _)); have HRv1 := Lib.hid ((hb.block (b0 + 1) (by omega)).trans (box_alloc HR.out _)); have HOv1 := Lib.hid ho; have HBv1 := Lib.hid (((Below.refl (b0 + 2) W).alloc (by omega) _).trans hb); clear ho hb; obtain ⟨cx1, cy1⟩ := box_rules HCv1.out)
  refine name_world fun W1 hW1 => ?_
  have HC1 : Hid (W1.heap[b0]? = some (.cells #[.int .i64 mn, .int .i64 mx, .int .i64 sw, .slice A1 ts.length c1, .slice B ls.length cb, .slice D hs.length cd] 28 (0, 0))) := Lib.hid (by rw [hW1]; exact box_set HCv1.out _)
  have HR1 : Hid (W1.heap[b0 + 1]? = some (.cells #[.int .i64 0, .int .i64 0, .int .i64 0, .slice none 0 0, .slice none 0 0, .slice none 0 0] 28 (0, 0))) := Lib.hid (by rw [hW1]; exact box_far HRv1.out (by show b0 + 1 ≠ b0; omega) _)
  have HO1 : Hid (W1.ownsRow (b0 + 2) 44 10 (.slice A1 ts.length c1) ts.length F1) := Lib.hid (by
    have h := HOv1.out
    rw [Nat.zero_add, List.nil_append] at h
    rw [hW1]; exact own_setK h (own_low h (by show b0 < _; omega)) _)
  have HB1 : Hid (Below b0 w W1) := Lib.hid (by rw [hW1]; exact (HB.out.trans (HBv1.out.mono (by omega))).setCell (p := ⟨b0, 3, none⟩) (Nat.le_refl _) _)
  have hs1 : b0 + 2 ≤ W1.heap.size := by
    have h1 := HBv1.out.size
    have h2 : W1.heap.size = v1.heap.size := by rw [hW1]; simp [World.setCell]
    omega
  clear hW1 cx1 cy1 HCv1 HRv1 HOv1 HBv1 hE1
  generalize hn1 : W1.heap.size = n1 at *
  obtain ⟨kx1, ky1⟩ := box_rules HC1.out
  have lw1 : b0 < W1.heap.size := by omega
  have lv1 : b0 < n1 := by omega
  have hE2 : Hid ((W1.alloc (.cells #[] 68)).ownsRow n1 68 4 (.slice (some ⟨n1, 0, none⟩) 0 0) 0 []) := Lib.hid (by
    have h := own_emptyK W1 68 (k := 4) (Nat.le_refl _)
    rw [hn1] at h; exact h)
  go_upto_region 3 with (at_builtin; go_loud (refine wp_appNK rfl _ _ skc_ln (by decide) rfl hE2.out rfl (by simp; omega) B ls.length cb _ rfl L2.out ((Hl.out.below (by rw [hb0]; exact HB1.out)).alloc _) O2.out (by omega) ?_); intro A2 c2 v2 ho hb; have HCv2 := Lib.hid ((hb.block b0 (by omega)).trans (box_alloc HC1.out _)); have HRv2 := Lib.hid ((hb.block (b0 + 1) (by omega)).trans (box_alloc HR1.out _)); have HOv2 := Lib.hid ho; have HBv2 := Lib.hid (((Below.refl n1 W1).alloc (by omega) _).trans hb); clear ho hb; obtain ⟨cx2, cy2⟩ := box_rules HCv2.out)
  refine name_world fun W2 hW2 => ?_
  have HC2 : Hid (W2.heap[b0]? = some (.cells #[.int .i64 mn, .int .i64 mx, .int .i64 sw, .slice A1 ts.length c1, .slice A2 ls.length c2, .slice D hs.length cd] 28 (0, 0))) := Lib.hid (by rw [hW2]; exact box_set HCv2.out _)
  have HR2 : Hid (W2.heap[b0 + 1]? = some (.cells #[.int .i64 0, .int .i64 0, .int .i64 0, .slice none 0 0, .slice none 0 0, .slice none 0 0] 28 (0, 0))) := Lib.hid (by rw [hW2]; exact box_far HRv2.out (by show b0 + 1 ≠ b0; omega) _)
  have HO2 : Hid (W2.ownsRow n1 68 4 (.slice A2 ls.length c2) ls.length F2) := Lib.hid (by
    have h := HOv2.out
    rw [Nat.zero_add, List.nil_append] at h
    rw [hW2]; exact own_setK h (own_low h (by show b0 < _; omega)) _)
  have HO1x : Hid (W2.ownsRow (b0 + 2) 44 10 (.slice A1 ts.length c1) ts.length F1) := Lib.hid (by
    rw [hW2]; exact own_setK (own_belowK HO1.out (by rw [hn1]; exact HBv2.out)) (own_low HO1.out (by show b0 < _; omega)) _)
  have HB2 : Hid (Below b0 w W2) := Lib.hid (by rw [hW2]; exact (HB1.out.trans (HBv2.out.mono (by omega))).setCell (p := ⟨b0, 4, none⟩) (Nat.le_refl _) _)
  have hs2 : b0 + 2 ≤ W2.heap.size := by
    have h1 := HBv2.out.size
    have h2 : W2.heap.size = v2.heap.size := by rw [hW2]; simp [World.setCell]
    omega
  clear hW2 cx2 cy2 HCv2 HRv2 HOv2 HBv2 hE2
  generalize hn2 : W2.heap.size = n2 at *
  obtain ⟨kx2, ky2⟩ := box_rules HC2.out
  have lw2 : b0 < W2.heap.size := by omega
  have lv2 : b0 < n2 := by omega
  have hE3 : Hid ((W2.alloc (.cells #[] 46)).ownsRow n2 46 4 (.slice (some ⟨n2, 0, none⟩) 0 0) 0 []) := Lib.hid (by
    have h := own_emptyK W2 46 (k := 4) (Nat.le_refl _)
    rw [hn2] at h; exact h)
  go_upto_region 4 with (at_builtin; go_loud (refine wp_appNK rfl _ _ skc_th (by decide) rfl hE3.out rfl (by simp; omega) D hs.length cd _ rfl L3.out ((Hh.out.below (by rw [hb0]; exact HB2.out)).alloc _) O3.out (by omega) ?_); intro A3 c3 v3 ho hb; have HCv3 := Lib.hid ((hb.block b0 (by omega)).trans (box_alloc HC2.out _)); have HRv3 := Lib.hid ((hb.block (b0 + 1) (by omega)).trans (box_alloc HR2.out _)); have HOv3 := Lib.hid ho; have HBv3 := Lib.hid (((Below.refl n2 W2).alloc (by omega) _).trans hb); clear ho hb; obtain ⟨cx3, cy3⟩ := box_rules HCv3.out)
  refine name_world fun W3 hW3 => ?_
  have HC3 : Hid (W3.heap[b0]? = some (.cells #[.int .i64 mn, .int .i64 mx, .int .i64 sw, .slice A1 ts.length c1, .slice A2 ls.length c2, .slice A3 hs.length c3] 28 (0, 0))) := Lib.hid (by rw [hW3]; exact box_set HCv3.out _)
  have HR3 : Hid (W3.heap[b0 + 1]? = some (.cells #[.int .i64 0, .int .i64 0, .int .i64 0, .slice none 0 0, .slice none 0 0, .slice none 0 0] 28 (0, 0))) := Lib.hid (by rw [hW3]; exact box_far HRv3.out (by show b0 + 1 ≠ b0; omega) _)
  have HO3 : Hid (W3.ownsRow n2 46 4 (.slice A3 hs.length c3) hs.length F3) := Lib.hid (by
    have h := HOv3.out
    rw [Nat.zero_add, List.nil_append] at h
    rw [hW3]; exact own_setK h (own_low h (by show b0 < _; omega)) _)
  have HO1xx : Hid (W3.ownsRow (b0 + 2) 44 10 (.slice A1 ts.length c1) ts.length F1) := Lib.hid (by
    rw [hW3]; exact own_setK (own_belowK HO1x.out (by rw [hn2]; exact HBv3.out)) (own_low HO1x.out (by show b0 < _; omega)) _)
  have HO2x : Hid (W3.ownsRow n1 68 4 (.slice A2 ls.length c2) ls.length F2) := Lib.hid (by
    rw [hW3]; exact own_setK (own_belowK HO2.out (by rw [hn2]; exact HBv3.out)) (own_low HO2.out (by show b0 < _; omega)) _)
  have HB3 : Hid (Below b0 w W3) := Lib.hid (by rw [hW3]; exact (HB2.out.trans (HBv3.out.mono (by omega))).setCell (p := ⟨b0, 5, none⟩) (Nat.le_refl _) _)
  have hs3 : b0 + 2 ≤ W3.heap.size := by
    have h1 := HBv3.out.size
    have h2 : W3.heap.size = v3.heap.size := by rw [hW3]; simp [World.setCell]
    omega
  clear hW3 cx3 cy3 HCv3 HRv3 HOv3 HBv3 hE3
  generalize hn3 : W3.heap.size = n3 at *
  obtain ⟨kx3, ky3⟩ := box_rules HC3.out
  have lw3 : b0 < W3.heap.size := by omega
  have lv3 : b0 < n3 := by omega
  obtain ⟨rx3, ry3⟩ := box_rules HR3.out
  go_wp2
  have h4 := box_set (i := 5) (box_set (i := 4) (box_set (i := 3) (box_set (i := 2) (box_set (i := 1) (box_set (i := 0) HR3.out (.int .i64 mn)) (.int .i64 mx)) (.int .i64 sw)) (.slice A1 ts.length c1)) (.slice A2 ls.length c2)) (.slice A3 hs.length c3)
  have hz := (box_rules h4).1
  refine bodyPost_ret (v := .agg #[.int .i64 mn, .int .i64 mx, .int .i64 sw, .slice A1 ts.length c1, .slice A2 ls.length c2, .slice A3 hs.length c3]) (by simp [results, Try.f31, go_sem, hz]) rfl ?_
  have bR : b0 ≤ b0 + 1 := by omega
  refine ⟨A1, c1, A2, c2, A3, c3, rfl, ?_, ?_, ?_, ?_⟩
  · rw [hb0]
    repeat (with_reducible refine own_setK ?_ (own_low HO1xx.out (by show b0 + 1 < b0 + 2; omega)) _)
    exact own_monoK HO1xx.out (by omega)
  · rw [hb0]
    repeat (with_reducible refine own_setK ?_ (own_low HO2x.out (by show b0 + 1 < n1; omega)) _)
    exact own_monoK HO2x.out (by omega)
  · rw [hb0]
    repeat (with_reducible refine own_setK ?_ (own_low HO3.out (by show b0 + 1 < n2; omega)) _)
    exact own_monoK HO3.out (by omega)
  · rw [hb0]
    repeat (with_reducible first | refine Below.setCell ?_ bR _ | exact HB3.out)
end Go.Proofs.Ytpdanmdpaanafaa

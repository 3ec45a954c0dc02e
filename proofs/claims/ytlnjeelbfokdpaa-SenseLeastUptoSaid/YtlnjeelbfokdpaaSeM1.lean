/- Package vergeref26: the walk of Copy. Conditions: lists that read. -/
import Derived.Test.YtlnjeelbfokdpaaRtSQ
import Derived.Test.YtlnjeelbfokdpaaAdGQ
import Derived.Test.YtlnjeelbfokdpaaKitK
namespace Go.Proofs.Ytlnjeelbfokdpaa
open Go.RowKit Go.Shelf

theorem skc_tk : SlK Try.prog 25 43 10 80 := SlK.mk' (z := .agg #[.int .u8 0, .int .i64 0, .int .i64 0, .int .i64 0, .int .i64 0, .int .i64 0, .int .i64 0, .int .i64 0, .int .i64 0, .int .i64 0]) Try.underlying25 (by kernel_rfl) rfl (by decide)
theorem skc_ln : SlK Try.prog 26 49 4 32 := SlK.mk' (z := .agg #[.int .i64 0, .int .i64 0, .int .i64 0, .int .i64 0]) Try.underlying26 (by kernel_rfl) rfl (by decide)
theorem skc_th : SlK Try.prog 27 51 4 32 := SlK.mk' (z := .agg #[.int .i64 0, .int .i64 0, .int .i64 0, .int .i64 0]) Try.underlying27 (by kernel_rfl) rfl (by decide)
theorem flat_len {α : Type} {f : α → List Value} {k : Nat} (hk : ∀ x, (f x).length = k) : ∀ l : List α, (l.flatMap f).length = l.length * k
  | [] => by simp
  | x :: l => by rw [List.flatMap_cons, List.length_append, flat_len hk l, hk, List.length_cons, Nat.add_mul]; omega
theorem flat_one {α : Type} {f : α → List Value} (hk : ∀ x, ∀ u ∈ f x, u.oneCell' = true) (l : List α) : ∀ u ∈ l.flatMap f, u.oneCell' = true := fun u hu => by
  obtain ⟨x, _, h⟩ := List.mem_flatMap.1 hu
  exact hk x u h
theorem tkc_one (x : Tk) : ∀ u ∈ tkc x, u.oneCell' = true := fun u h => by
  simp only [tkc, List.mem_cons, List.not_mem_nil, or_false] at h
  rcases h with rfl | rfl | rfl | rfl | rfl | rfl | rfl | rfl | rfl | rfl <;> rfl
theorem lnc_one (x : Ln) : ∀ u ∈ lnc x, u.oneCell' = true := fun u h => by
  simp only [lnc, List.mem_cons, List.not_mem_nil, or_false] at h
  rcases h with rfl | rfl | rfl | rfl <;> rfl
theorem thc_one' (x : Th) : ∀ u ∈ thc x, u.oneCell' = true := fun u h => by
  simp only [thc, List.mem_cons, List.not_mem_nil, or_false] at h
  rcases h with rfl | rfl | rfl | rfl <;> rfl
/-- A copy: three rows of its own. -/
def RetCy (mn mx sw : Int) (ts : List Tk) (ls : List Ln) (hs : List Th) (w : World) (e : Ending) (w' : World) : Prop :=
  ∃ (A : Option Addr) (ca : Nat) (B : Option Addr) (cb : Nat) (D : Option Addr) (cd : Nat), e = .returned (cfv mn mx sw A ts.length ca B ls.length cb D hs.length cd) ∧
    w'.ownsRow w.heap.size 43 10 (.slice A ts.length ca) ts.length (ts.flatMap tkc) ∧ w'.ownsRow w.heap.size 49 4 (.slice B ls.length cb) ls.length (ls.flatMap lnc) ∧
    w'.ownsRow w.heap.size 51 4 (.slice D hs.length cd) hs.length (hs.flatMap thc) ∧ Below w.heap.size w w'
set_option maxHeartbeats 4000000 in
set_option maxRecDepth 100000 in
theorem copy26_any (mn mx sw : Int) (ts : List Tk) (ls : List Ln) (hs : List Th) (A : Option Addr) (ca : Nat) (B : Option Addr) (cb : Nat) (D : Option Addr) (cd : Nat) (w : World)
    (hlt0 : ts.length ≤ 1048576) (hll : ls.length ≤ 1048576) (hlh : hs.length ≤ 1048576)
    (ht : Rd w A (ts.flatMap tkc)) (hl : Rd w B (ls.flatMap lnc)) (hh : Rd w D (hs.flatMap thc)) :
    Calls Try.prog 20 #[cfv mn mx sw A ts.length ca B ls.length cb D hs.length cd] w (RetCy mn mx sw ts ls hs w) := by
  have Ht := Lib.hid ht; have Hl := Lib.hid hl; have Hh := Lib.hid hh
  have L1 := Lib.hid (flat_len (f := tkc) (k := 10) (fun _ => rfl) ts)
  have L2 := Lib.hid (flat_len (f := lnc) (k := 4) (fun _ => rfl) ls)
  have L3 := Lib.hid (flat_len (f := thc) (k := 4) (fun _ => rfl) hs)
  have O1 := Lib.hid (flat_one tkc_one ts)
  have O2 := Lib.hid (flat_one lnc_one ls)
  have O3 := Lib.hid (flat_one thc_one' hs)
  clear ht hl hh
  unfold cfv RetCy
  generalize hF1 : ts.flatMap tkc = F1 at *
  generalize hF2 : ls.flatMap lnc = F2 at *
  generalize hF3 : hs.flatMap thc = F3 at *
  clear hF1 hF2 hF3
  go_enter Try.func20, Try.ntmps20
  go_upto_region 1 with fail
  refine name_world fun W hW => ?_
  have HC : Hid (W.heap[w.heap.size]? = some (.cells #[.int .i64 mn, .int .i64 mx, .int .i64 sw, .slice A ts.length ca, .slice B ls.length cb, .slice D hs.length cd] 29 (0, 0))) := Lib.hid (by rw [hW]; exact box_alloc (heap_alloc_new w _) _)
  have HR : Hid (W.heap[w.heap.size + 1]? = some (.cells #[.int .i64 0, .int .i64 0, .int .i64 0, .slice none 0 0, .slice none 0 0, .slice none 0 0] 29 (0, 0))) := Lib.hid (by rw [hW]; exact heap_new_at _ (by simp))
  have HB : Hid (Below w.heap.size w W) := Lib.hid (by rw [hW]; exact ((Below.refl _ _).alloc (Nat.le_refl _) _).alloc (by simp) _)
  have hs0 : W.heap.size = w.heap.size + 2 := by rw [hW]; simp
  clear hW
  generalize hb0 : w.heap.size = b0 at *
  obtain ⟨cx, cy⟩ := box_rules HC.out
  have hE1 : Hid ((W.alloc (.cells #[] 43)).ownsRow (b0 + 2) 43 10 (.slice (some ⟨(b0 + 2), 0, none⟩) 0 0) 0 []) := Lib.hid (by
    have h := own_emptyK W 43 (k := 10) (Nat.le_refl _)
    rw [hs0] at h; exact h)
  go_upto_region 2 with (at_builtin; go_loud (refine wp_appNK rfl _ _ skc_tk (by decide) rfl hE1.out rfl (by simp; omega) A ts.length ca _ rfl L1.out ((Ht.out.below (by rw [hb0]; exact HB.out)).alloc _) O1.out (by omega) ?_); intro A1 c1 v1 ho hb; have HCv1 := Lib.hid ((hb.block b0 (by omega)).trans (box_alloc HC.out _)); have HRv1 := Lib.hid ((hb.block (b0 + 1) (by omega)).trans (box_alloc HR.out _)); have HOv1 := Lib.hid ho; have HBv1 := Lib.hid (((Below.refl (b0 + 2) W).alloc (by omega) _).trans hb); clear ho hb; obtain ⟨cx1, cy1⟩ := box_rules HCv1.out)
  refine name_world fun W1 hW1 => ?_
  have HC1 : Hid (W1.heap[b0]? = some (.cells #[.int .i64 mn, .int .i64 mx, .int .i64 sw, .slice A1 ts.length c1, .slice B ls.length cb, .slice D hs.length cd] 29 (0, 0))) := Lib.hid (by rw [hW1]; exact box_set HCv1.out _)
  have HR1 : Hid (W1.heap[b0 + 1]? = some (.cells #[.int .i64 0, .int .i64 0, .int .i64 0, .slice none 0 0, .slice none 0 0, .slice none 0 0] 29 (0, 0))) := Lib.hid (by rw [hW1]; exact box_far HRv1.out (by show b0 + 1 ≠ b0; omega) _)
  have HO1 : Hid (W1.ownsRow (b0 + 2) 43 10 (.slice A1 ts.length c1) ts.length F1) := Lib.hid (by
    have h := HOv1.out
    rw [Nat.zero_add, List.nil_append] at h
    rw [hW1]; exact own_setK h (own_low h (by show b0 < _; omega)) _)
  have HB1 : Hid (Below b0 w W1) := Lib.hid (by rw [hW1]; exact (HB.out.trans (HBv1.out.mono (by omega))).setCell (p := ⟨b0, 3, none⟩) (Nat.le_refl _) _)
  have hs1 : b0 + 2 ≤ W1.heap.size := by
    have h1 := HBv1.out.size
    have h2 : W1.heap.size = v1.heap.size := by rw [hW1]; simp [World.setCell]
    omega
  clear hW1 cx1 cy1 HCv1 HRv1 HOv1 HBv1 hE1
  generalize hn1 : W1.heap.size = n1 at *
  obtain ⟨kx1, ky1⟩ := box_rules HC1.out
  have lw1 : b0 < W1.heap.size := by omega
  have lv1 : b0 < n1 := by omega
  have hE2 : Hid ((W1.alloc (.cells #[] 49)).ownsRow n1 49 4 (.slice (some ⟨n1, 0, none⟩) 0 0) 0 []) := Lib.hid (by
    have h := own_emptyK W1 49 (k := 4) (Nat.le_refl _)
    rw [hn1] at h; exact h)
  go_upto_region 3 with (at_builtin; go_loud (refine wp_appNK rfl _ _ skc_ln (by decide) rfl hE2.out rfl (by simp; omega) B ls.length cb _ rfl L2.out ((Hl.out.below (by rw [hb0]; exact HB1.out)).alloc _) O2.out (by omega) ?_); intro A2 c2 v2 ho hb; have HCv2 := Lib.hid ((hb.block b0 (by omega)).trans (box_alloc HC1.out _)); have HRv2 := Lib.hid ((hb.block (b0 + 1) (by omega)).trans (box_alloc HR1.out _)); have HOv2 := Lib.hid ho; have HBv2 := Lib.hid (((Below.refl n1 W1).alloc (by omega) _).trans hb); clear ho hb; obtain ⟨cx2, cy2⟩ := box_rules HCv2.out)
  refine name_world fun W2 hW2 => ?_
  have HC2 : Hid (W2.heap[b0]? = some (.cells #[.int .i64 mn, .int .i64 mx, .int .i64 sw, .slice A1 ts.length c1, .slice A2 ls.length c2, .slice D hs.length cd] 29 (0, 0))) := Lib.hid (by rw [hW2]; exact box_set HCv2.out _)
  have HR2 : Hid (W2.heap[b0 + 1]? = some (.cells #[.int .i64 0, .int .i64 0, .int .i64 0, .slice none 0 0, .slice none 0 0, .slice none 0 0] 29 (0, 0))) := Lib.hid (by rw [hW2]; exact box_far HRv2.out (by show b0 + 1 ≠ b0; omega) _)
  have HO2 : Hid (W2.ownsRow n1 49 4 (.slice A2 ls.length c2) ls.length F2) := Lib.hid (by
    have h := HOv2.out
    rw [Nat.zero_add, List.nil_append] at h
    rw [hW2]; exact own_setK h (own_low h (by show b0 < _; omega)) _)
  have HO1x : Hid (W2.ownsRow (b0 + 2) 43 10 (.slice A1 ts.length c1) ts.length F1) := Lib.hid (by
    rw [hW2]; exact own_setK (own_belowK HO1.out (by rw [hn1]; exact HBv2.out)) (own_low HO1.out (by show b0 < _; omega)) _)
  have HB2 : Hid (Below b0 w W2) := Lib.hid (by rw [hW2]; exact (HB1.out.trans (HBv2.out.mono (by omega))).setCell (p := ⟨b0, 4, none⟩) (Nat.le_refl _) _)
  have hs2 : b0 + 2 ≤ W2.heap.size := by
    have h1 := HBv2.out.size
    have h2 : W2.heap.size = v2.heap.size := by rw [hW2]; simp [World.setCell]
    omega
  clear hW2 cx2 cy2 HCv2 HRv2 HOv2 HBv2 hE2
  generalize hn2 : W2.heap.size = n2 at *
  obtain ⟨kx2, ky2⟩ := box_rules HC2.out
  have lw2 : b0 < W2.heap.size := by omega
  have lv2 : b0 < n2 := by omega
  have hE3 : Hid ((W2.alloc (.cells #[] 51)).ownsRow n2 51 4 (.slice (some ⟨n2, 0, none⟩) 0 0) 0 []) := Lib.hid (by
    have h := own_emptyK W2 51 (k := 4) (Nat.le_refl _)
    rw [hn2] at h; exact h)
  go_upto_region 4 with (at_builtin; go_loud (refine wp_appNK rfl _ _ skc_th (by decide) rfl hE3.out rfl (by simp; omega) D hs.length cd _ rfl L3.out ((Hh.out.below (by rw [hb0]; exact HB2.out)).alloc _) O3.out (by omega) ?_); intro A3 c3 v3 ho hb; have HCv3 := Lib.hid ((hb.block b0 (by omega)).trans (box_alloc HC2.out _)); have HRv3 := Lib.hid ((hb.block (b0 + 1) (by omega)).trans (box_alloc HR2.out _)); have HOv3 := Lib.hid ho; have HBv3 := Lib.hid (((Below.refl n2 W2).alloc (by omega) _).trans hb); clear ho hb; obtain ⟨cx3, cy3⟩ := box_rules HCv3.out)
  refine name_world fun W3 hW3 => ?_
  have HC3 : Hid (W3.heap[b0]? = some (.cells #[.int .i64 mn, .int .i64 mx, .int .i64 sw, .slice A1 ts.length c1, .slice A2 ls.length c2, .slice A3 hs.length c3] 29 (0, 0))) := Lib.hid (by rw [hW3]; exact box_set HCv3.out _)
  have HR3 : Hid (W3.heap[b0 + 1]? = some (.cells #[.int .i64 0, .int .i64 0, .int .i64 0, .slice none 0 0, .slice none 0 0, .slice none 0 0] 29 (0, 0))) := Lib.hid (by rw [hW3]; exact box_far HRv3.out (by show b0 + 1 ≠ b0; omega) _)
  have HO3 : Hid (W3.ownsRow n2 51 4 (.slice A3 hs.length c3) hs.length F3) := Lib.hid (by
    have h := HOv3.out
    rw [Nat.zero_add, List.nil_append] at h
    rw [hW3]; exact own_setK h (own_low h (by show b0 < _; omega)) _)
  have HO1xx : Hid (W3.ownsRow (b0 + 2) 43 10 (.slice A1 ts.length c1) ts.length F1) := Lib.hid (by
    rw [hW3]; exact own_setK (own_belowK HO1x.out (by rw [hn2]; exact HBv3.out)) (own_low HO1x.out (by show b0 < _; omega)) _)
  have HO2x : Hid (W3.ownsRow n1 49 4 (.slice A2 ls.length c2) ls.length F2) := Lib.hid (by
    rw [hW3]; exact own_setK (own_belowK HO2.out (by rw [hn2]; exact HBv3.out)) (own_low HO2.out (by show b0 < _; omega)) _)
  have HB3 : Hid (Below b0 w W3) := Lib.hid (by rw [hW3]; exact (HB2.out.trans (HBv3.out.mono (by omega))).setCell (p := ⟨b0, 5, none⟩) (Nat.le_refl _) _)
  have hs3 : b0 + 2 ≤ W3.heap.size := by
    have h1 := HBv3.out.size
    have h2 : W3.heap.size = v3.heap.size := by rw [hW3]; simp [World.setCell]
    omega
  clear hW3 cx3 cy3 HCv3 HRv3 HOv3 HBv3 hE3
  generalize hn3 : W3.heap.size = n3 at *
  obtain ⟨kx3, ky3⟩ := box_rules HC3.out
  have lw3 : b0 < W3.heap.size := by omega
  have lv3 : b0 < n3 := by omega
  obtain ⟨rx3, ry3⟩ := box_rules HR3.out
  go_wp2
  have h4 := box_set (i := 5) (box_set (i := 4) (box_set (i := 3) (box_set (i := 2) (box_set (i := 1) (box_set (i := 0) HR3.out (.int .i64 mn)) (.int .i64 mx)) (.int .i64 sw)) (.slice A1 ts.length c1)) (.slice A2 ls.length c2)) (.slice A3 hs.length c3)
  have hz := (box_rules h4).1
  refine bodyPost_ret (v := .agg #[.int .i64 mn, .int .i64 mx, .int .i64 sw, .slice A1 ts.length c1, .slice A2 ls.length c2, .slice A3 hs.length c3]) (by simp [results, Try.f20, go_sem, hz]) rfl ?_
  have bR : b0 ≤ b0 + 1 := by omega
  refine ⟨A1, c1, A2, c2, A3, c3, rfl, ?_, ?_, ?_, ?_⟩
  · rw [hb0]
    repeat (with_reducible refine own_setK ?_ (own_low HO1xx.out (by show b0 + 1 < b0 + 2; omega)) _)
    exact own_monoK HO1xx.out (by omega)
  · rw [hb0]
    repeat (with_reducible refine own_setK ?_ (own_low HO2x.out (by show b0 + 1 < n1; omega)) _)
    exact own_monoK HO2x.out (by omega)
  · rw [hb0]
    repeat (with_reducible refine own_setK ?_ (own_low HO3.out (by show b0 + 1 < n2; omega)) _)
    exact own_monoK HO3.out (by omega)
  · rw [hb0]
    repeat (with_reducible first | refine Below.setCell ?_ bR _ | exact HB3.out)
end Go.Proofs.Ytlnjeelbfokdpaa
/- Package sense: searches as data; the walks of slices.Clone and open. Conditions: lists that read. -/
namespace Go.Proofs.Ytlnjeelbfokdpaa
open Go.RowKit Go.Shelf

/-- Whether a configuration is accepted. -/
def accB (c : Cf) : Bool := (bndR c.why (bdF c.mn c.sw c.ts c.ls c.hs) c.ts.length).2.2 == 0
def oyY (c : Cf) : Int := if c.why ≠ 0 then c.why else if accB c then 0 else 11
/-- The search by halves. -/
def srch (P : Int → Bool) : Nat → Int → Int → Int
  | 0, lo, _ => lo
  | k + 1, lo, hi => if 1 < hi - lo then (if P (lo + (hi - lo) / 2) then srch P k (lo + (hi - lo) / 2) hi else srch P k lo (lo + (hi - lo) / 2)) else lo
def srS (P : Int → Bool) (lo hi : Int) : Int := srch P (hi - lo).toNat lo hi
theorem srch_more (P : Int → Bool) : ∀ (k : Nat) (lo hi : Int), (hi - lo).toNat ≤ k → srch P k lo hi = srch P (k + 1) lo hi
  | 0, lo, hi, h => by
    show lo = (if 1 < hi - lo then _ else lo)
    rw [if_neg (by omega)]
  | k + 1, lo, hi, h => by
    show (if 1 < hi - lo then _ else lo) = (if 1 < hi - lo then _ else lo)
    by_cases h1 : 1 < hi - lo
    · rw [if_pos h1, if_pos h1, srch_more P k _ hi (by omega), srch_more P k lo _ (by omega)]
    · rw [if_neg h1, if_neg h1]
theorem srch_fuel (P : Int → Bool) (lo hi : Int) : ∀ k, (hi - lo).toNat ≤ k → srch P k lo hi = srS P lo hi
  | 0, h => by unfold srS; rw [show (hi - lo).toNat = 0 by omega]
  | k + 1, h => by
    by_cases e : (hi - lo).toNat = k + 1
    · unfold srS; rw [e]
    · rw [← srch_more P k lo hi (by omega), srch_fuel P lo hi k (by omega)]
theorem srS_end {P : Int → Bool} {lo hi : Int} (h : ¬ 1 < hi - lo) : srS P lo hi = lo := by
  unfold srS
  generalize (hi - lo).toNat = k
  cases k with
  | zero => rfl
  | succ k => show (if 1 < hi - lo then _ else lo) = lo; rw [if_neg h]
theorem srS_step {P : Int → Bool} {lo hi : Int} (h : 1 < hi - lo) : srS P lo hi = if P (lo + (hi - lo) / 2) then srS P (lo + (hi - lo) / 2) hi else srS P lo (lo + (hi - lo) / 2) := by
  have e : srS P lo hi = srch P ((hi - lo).toNat - 1 + 1) lo hi := by unfold srS; rw [show (hi - lo).toNat - 1 + 1 = (hi - lo).toNat by omega]
  rw [e]
  show (if 1 < hi - lo then _ else lo) = _
  rw [if_pos h, srch_fuel P _ _ _ (by omega), srch_fuel P _ _ _ (by omega)]
/-- What a search ends at: borne, and not with one more. -/
theorem srS_edge {P : Int → Bool} : ∀ (k : Nat) {lo hi : Int}, (hi - lo).toNat ≤ k → lo < hi → P lo = true → P hi = false → P (srS P lo hi) = true ∧ P (srS P lo hi + 1) = false ∧ lo ≤ srS P lo hi ∧ srS P lo hi < hi
  | 0, lo, hi, h, h1, _, _ => by omega
  | k + 1, lo, hi, h, h1, h2, h3 => by
    by_cases h4 : 1 < hi - lo
    · rw [srS_step h4]
      split
      · rename_i hp
        obtain ⟨a, b, c, d⟩ := srS_edge k (lo := lo + (hi - lo) / 2) (hi := hi) (by omega) (by omega) hp h3
        exact ⟨a, b, by omega, d⟩
      · rename_i hp
        obtain ⟨a, b, c, d⟩ := srS_edge k (lo := lo) (hi := lo + (hi - lo) / 2) (by omega) (by omega) h2 (by simpa using hp)
        exact ⟨a, b, c, by omega⟩
    · rw [srS_end h4]
      have e : lo + 1 = hi := by omega
      rw [e]
      exact ⟨h2, h3, Int.le_refl _, h1⟩
theorem clone_tk (A : Option Addr) (n c : Nat) (vs : List Value) (w : World) (hl : vs.length = n * 10) (hn : n ≤ 1048576) (hr : Rd w A vs) (h1 : ∀ u ∈ vs, u.oneCell' = true) :
    Calls Try.prog 42 #[.slice A n c] w fun e w' => ∃ A' c', e = .returned (.slice A' n c') ∧ w'.ownsRow w.heap.size 43 10 (.slice A' n c') n vs ∧ Below w.heap.size w w' := by
  have q : ∀ (w : World) (a : Option Addr) (n c n' c' : Nat), (binOp .eql 25 (.slice a n c) (.slice none n' c')).run Try.prog w = .ok (.bool a.isNone) w := fun w a n c n' c' => Lib.run_eql_slice_nil w _ _ a n c n' c' Try.underlying25
  rcases A with _ | ad
  · have hx : vs = [] := by
      cases vs with
      | nil => rfl
      | cons y ys => obtain ⟨a', ha, _⟩ := hr 0 _ rfl; cases ha
    subst hx
    have hn0 : n = 0 := by simp at hl; omega
    subst hn0
    go_enter Try.func42, Try.ntmps42
    go_wp2
    go_ret
    exact ⟨none, 0, rfl, own_nilK _ _ _ _, Below.refl _ _⟩
  · have Hr := Lib.hid hr; clear hr
    have Hone := Lib.hid h1; clear h1
    have Hl := Lib.hid hl; clear hl
    go_enter Try.func42, Try.ntmps42
    go_wp2_with (at_builtin; go_loud (refine wp_appNK rfl _ _ skc_tk (by decide) rfl (own_emptyK w 43 (k := 10) (Nat.le_refl _)) rfl (by simp) (some ad) n c vs rfl Hl.out (Hr.out.alloc _) Hone.out (by omega) ?_); intro A' c' w1 hown' hB'; rw [List.nil_append, Nat.zero_add] at hown'; rw [Nat.zero_add])
    go_ret
    exact ⟨A', c', rfl, hown', ((Below.refl _ _).alloc (Nat.le_refl _) _).trans hB'⟩
theorem clone_th (A : Option Addr) (n c : Nat) (vs : List Value) (w : World) (hl : vs.length = n * 4) (hn : n ≤ 1048576) (hr : Rd w A vs) (h1 : ∀ u ∈ vs, u.oneCell' = true) :
    Calls Try.prog 43 #[.slice A n c] w fun e w' => ∃ A' c', e = .returned (.slice A' n c') ∧ w'.ownsRow w.heap.size 51 4 (.slice A' n c') n vs ∧ Below w.heap.size w w' := by
  have q : ∀ (w : World) (a : Option Addr) (n c n' c' : Nat), (binOp .eql 27 (.slice a n c) (.slice none n' c')).run Try.prog w = .ok (.bool a.isNone) w := fun w a n c n' c' => Lib.run_eql_slice_nil w _ _ a n c n' c' Try.underlying27
  rcases A with _ | ad
  · have hx : vs = [] := by
      cases vs with
      | nil => rfl
      | cons y ys => obtain ⟨a', ha, _⟩ := hr 0 _ rfl; cases ha
    subst hx
    have hn0 : n = 0 := by simp at hl; omega
    subst hn0
    go_enter Try.func43, Try.ntmps43
    go_wp2
    go_ret
    exact ⟨none, 0, rfl, own_nilK _ _ _ _, Below.refl _ _⟩
  · have Hr := Lib.hid hr; clear hr
    have Hone := Lib.hid h1; clear h1
    have Hl := Lib.hid hl; clear hl
    go_enter Try.func43, Try.ntmps43
    go_wp2_with (at_builtin; go_loud (refine wp_appNK rfl _ _ skc_th (by decide) rfl (own_emptyK w 51 (k := 4) (Nat.le_refl _)) rfl (by simp) (some ad) n c vs rfl Hl.out (Hr.out.alloc _) Hone.out (by omega) ?_); intro A' c' w1 hown' hB'; rw [List.nil_append, Nat.zero_add] at hown'; rw [Nat.zero_add])
    go_ret
    exact ⟨A', c', rfl, hown', ((Below.refl _ _).alloc (Nat.le_refl _) _).trans hB'⟩
end Go.Proofs.Ytlnjeelbfokdpaa
/- Stores into rows of one's own. No premise of its own. -/
namespace Go.Proofs.Ytlnjeelbfokdpaa
open Go.RowKit

/-- A store into an own row. -/
theorem own_put {w : World} {base : Nat} {e : TypeId} {k n c : Nat} {a : Addr} {vs : List Value} (h : w.ownsRow base e k (.slice (some a) n c) n vs) (m j : Nat) (u : Value) :
    (w.setCell ⟨(a.add m).block, (a.add m).off + j, none⟩ u).ownsRow base e k (.slice (some a) n c) n (vs.set (m + j) u) := by
  refine ⟨by rw [List.length_set]; exact h.1, ?_⟩
  rcases h.2 with ⟨h1, _⟩ | ⟨g, cap, cur, h1, h2, h3, h4, h5, h6, h7⟩
  · cases h1
  · injection h1 with h1 h8 h9
    injection h1 with h1
    subst h1 h9
    have e0 : ((⟨g, 0, none⟩ : Addr).add m) = ⟨g, m, none⟩ := by rw [add_zero_lit, Nat.zero_add]
    rw [e0]
    refine .inr ⟨g, _, cur.setIfInBounds (m + j) u, rfl, h2, ?_, h4, h5, by simpa using h6, ?_⟩
    · have := box_set (i := m + j) h3 u
      exact this
    · rw [Array.toList_setIfInBounds, List.take_set, h7]
theorem own_froz {w : World} {base : Nat} {e : TypeId} {k n c : Nat} {a : Addr} {vs : List Value} (h : w.ownsRow base e k (.slice (some a) n c) n vs) (m j : Nat) : w.frozen? ⟨(a.add m).block, (a.add m).off + j, none⟩ = false := by
  rcases h.2 with ⟨h1, _⟩ | ⟨g, cap, cur, h1, h2, h3, _⟩
  · cases h1
  · injection h1 with h1
    injection h1 with h1
    subst h1
    rw [add_zero_lit]
    exact (box_rules h3).2 _
theorem flat_set {α : Type} {f : α → List Value} {k : Nat} (hk : ∀ x, (f x).length = k) {d : α} : ∀ (l : List α) (i j : Nat) (y : α) (u : Value), i < l.length → j < k → f y = (f (l.getD i d)).set j u → (l.flatMap f).set (i * k + j) u = (l.set i y).flatMap f
  | x :: l, 0, j, y, u, _, hj, h => by
    rw [List.flatMap_cons, List.set_cons_zero, List.flatMap_cons, Nat.zero_mul, Nat.zero_add, List.set_append_left _ _ (by rw [hk]; exact hj), h]
    rfl
  | x :: l, i + 1, j, y, u, hi, hj, h => by
    have ih := flat_set hk (d := d) l i j y u (by simpa using hi) hj h
    rw [List.flatMap_cons, List.set_cons_succ, List.flatMap_cons, List.set_append_right _ _ (by rw [hk, Nat.add_mul]; omega), hk, show (i + 1) * k + j - k = i * k + j by rw [Nat.add_mul]; omega, ih]
theorem own_blk {w : World} {base : Nat} {e : TypeId} {k n c : Nat} {a : Addr} {vs : List Value} (h : w.ownsRow base e k (.slice (some a) n c) n vs) (m : Nat) : base ≤ (a.add m).block ∧ (Value.slice (some a) n c).ownBlock = some (a.add m).block := by
  rcases h.2 with ⟨h1, _⟩ | ⟨g, cap, cur, h1, h2, h3, _⟩
  · cases h1
  · injection h1 with h1
    injection h1 with h1
    subst h1
    rw [add_zero_lit]
    exact ⟨h2, rfl⟩
end Go.Proofs.Ytlnjeelbfokdpaa
/- Package sense: the walk of open. Conditions: lists that read. -/
namespace Go.Proofs.Ytlnjeelbfokdpaa
open Go.RowKit Go.Shelf

/-- A probe: its block, its own rows. -/
structure PrI (mn mx sw : Int) (nt nl nh p base : Nat) (A1 : Option Addr) (c1 : Nat) (B : Option Addr) (cb : Nat) (D1 : Option Addr) (d1 : Nat) (fv : Value) (w : World) (T : List Tk) (H : List Th) (wx : World) : Prop where
  boxp : wx.heap[p]? = some (.cells #[.int .i64 mn, .int .i64 mx, .int .i64 sw, .slice A1 nt c1, .slice B nl cb, .slice D1 nh d1, fv] 79 (0, 0))
  o1 : wx.ownsRow base 43 10 (.slice A1 nt c1) nt (T.flatMap tkc)
  o3 : wx.ownsRow base 51 4 (.slice D1 nh d1) nh (H.flatMap thc)
  low : Below w.heap.size w wx
  bl : w.heap.size ≤ base ∧ base ≤ p
theorem PrI.below {mn mx sw : Int} {nt nl nh p base : Nat} {A1 : Option Addr} {c1 : Nat} {B : Option Addr} {cb : Nat} {D1 : Option Addr} {d1 : Nat} {fv : Value} {w : World} {T : List Tk} {H : List Th} {wx wy : World}
    (h : PrI mn mx sw nt nl nh p base A1 c1 B cb D1 d1 fv w T H wx) (hb : Below wx.heap.size wx wy) : PrI mn mx sw nt nl nh p base A1 c1 B cb D1 d1 fv w T H wy :=
  ⟨box_keep h.boxp hb, own_belowK h.o1 hb, own_belowK h.o3 hb, h.low.trans (hb.mono h.low.size), h.bl⟩
def RetO (Y : Int) (mn mx sw : Int) (nt nl nh : Nat) (B : Option Addr) (cb : Nat) (T : List Tk) (H : List Th) (w : World) (e : Ending) (w' : World) : Prop :=
  ∃ v, e = .returned (.tuple #[v, .int .i64 Y]) ∧ Below w.heap.size w w' ∧ (Y ≠ 0 → v = .pointer none) ∧
    (Y = 0 → ∃ (p : Nat) (A1 : Option Addr) (c1 : Nat) (D1 : Option Addr) (d1 : Nat), v = .pointer (some ⟨p, 0, none⟩) ∧ PrI mn mx sw nt nl nh p w.heap.size A1 c1 B cb D1 d1 .nilFunc w T H w')
theorem sopen_fin {mn mx sw : Int} {nt nl nh : Nat} {A1 : Option Addr} {c1 : Nat} {B : Option Addr} {cb : Nat} {D1 : Option Addr} {d1 : Nat} {T : List Tk} {H : List Th} {F1 F3 : List Value} {w w2 wT wH : World}
    (e1 : T.flatMap tkc = F1) (e3 : H.flatMap thc = F3) (l2 : w.heap.size < w2.heap.size) (hB : Below w.heap.size w w2)
    (hbT : Below w2.heap.size w2 wT) (hbH : Below wT.heap.size wT wH) (hoT : wT.ownsRow w2.heap.size 43 10 (.slice A1 nt c1) nt F1) (hoH : wH.ownsRow wT.heap.size 51 4 (.slice D1 nh d1) nh F3) :
    RetO 0 mn mx sw nt nl nh B cb T H w (.returned (.tuple #[.pointer (some ⟨wH.heap.size, 0, none⟩), .int .i64 0]))
      (((wH.setCell ⟨w.heap.size, 3, none⟩ (.slice A1 nt c1)).setCell ⟨w.heap.size, 5, none⟩ (.slice D1 nh d1)).alloc (.cells #[.int .i64 mn, .int .i64 mx, .int .i64 sw, .slice A1 nt c1, .slice B nl cb, .slice D1 nh d1, .nilFunc] 79)) := by
  have hs1 := hB.size
  have hs2 := hbT.size
  have hs3 := hbH.size
  have sz : ((wH.setCell ⟨w.heap.size, 3, none⟩ (.slice A1 nt c1)).setCell ⟨w.heap.size, 5, none⟩ (.slice D1 nh d1)).heap.size = wH.heap.size := by simp [World.setCell]
  have hlow : Below w.heap.size w (((wH.setCell ⟨w.heap.size, 3, none⟩ (.slice A1 nt c1)).setCell ⟨w.heap.size, 5, none⟩ (.slice D1 nh d1)).alloc (.cells #[.int .i64 mn, .int .i64 mx, .int .i64 sw, .slice A1 nt c1, .slice B nl cb, .slice D1 nh d1, .nilFunc] 79)) := by
    refine Below.alloc ?_ (by rw [sz]; omega) _
    exact (((hB.trans (hbT.mono (by omega))).trans (hbH.mono (by omega))).setCell (p := ⟨w.heap.size, 3, none⟩) (Nat.le_refl _) _).setCell (p := ⟨w.heap.size, 5, none⟩) (Nat.le_refl _) _
  have hoT2 := own_belowK hoT hbH
  refine ⟨_, rfl, hlow, fun h => absurd rfl h, fun _ => ⟨wH.heap.size, A1, c1, D1, d1, rfl, ⟨heap_new_at _ sz, ?_, ?_, hlow, ⟨Nat.le_refl _, by omega⟩⟩⟩⟩
  · rw [e1]
    exact own_monoK (own_allocK (own_setK (own_setK hoT2 (p := ⟨w.heap.size, 3, none⟩) (own_low hoT2 l2) _) (p := ⟨w.heap.size, 5, none⟩) (own_low hoT2 l2) _) _) (by omega)
  · rw [e3]
    exact own_monoK (own_allocK (own_setK (own_setK hoH (p := ⟨w.heap.size, 3, none⟩) (own_low hoH (by show w.heap.size < _; omega)) _) (p := ⟨w.heap.size, 5, none⟩) (own_low hoH (by show w.heap.size < _; omega)) _) _) (by omega)
set_option maxHeartbeats 4000000 in
set_option maxRecDepth 100000 in
theorem sopen_any (mn mx sw : Int) (ts : List Tk) (ls : List Ln) (hs : List Th) (A : Option Addr) (ca : Nat) (B : Option Addr) (cb : Nat) (D : Option Addr) (cd : Nat) (w : World)
    (hlt0 : ts.length ≤ 1048576) (hll : ls.length ≤ 1048576) (hlh : hs.length ≤ 1048576)
    (ht : Rd w A (ts.flatMap tkc)) (hl : Rd w B (ls.flatMap lnc)) (hh : Rd w D (hs.flatMap thc)) (hmx : I64 mx) (ht64 : ∀ p ∈ ts.map (·.prio) ++ hs.map (·.prio), I64 p) :
    Calls Try.prog 30 #[cfv mn mx sw A ts.length ca B ls.length cb D hs.length cd] w (RetO (oyY ⟨mn, mx, sw, ts, ls, hs⟩) mn mx sw ts.length ls.length hs.length B cb ts hs w) := by
  have c2 := Lib.hid (fun w ht hl hh => check_cfg mn mx sw ts ls hs A ca B cb D cd w hlt0 hll hlh ht hl hh hmx ht64)
  have c3 := Lib.hid (fun w ht hl hh => accept_any mn mx sw ts ls hs A ca B cb D cd w hlt0 hll hlh ht hl hh hmx ht64)
  have k1 := Lib.hid (fun w hr => clone_tk A ts.length ca (ts.flatMap tkc) w (flat_len (f := tkc) (k := 10) (fun _ => rfl) ts) hlt0 hr (flat_one tkc_one ts))
  have k3 := Lib.hid (fun w hr => clone_th D hs.length cd (hs.flatMap thc) w (flat_len (f := thc) (k := 4) (fun _ => rfl) hs) hlh hr (flat_one thc_one' hs))
  have HY : Hid (oyY ⟨mn, mx, sw, ts, ls, hs⟩ = if Cf.why ⟨mn, mx, sw, ts, ls, hs⟩ ≠ 0 then Cf.why ⟨mn, mx, sw, ts, ls, hs⟩ else if ((bndR (Cf.why ⟨mn, mx, sw, ts, ls, hs⟩) (bdF mn sw ts ls hs) ts.length).2.2 == 0) then 0 else 11) := Lib.hid rfl
  have Ht := Lib.hid ht; have Hl := Lib.hid hl; have Hh := Lib.hid hh
  clear ht hl hh hmx ht64
  unfold cfv at *
  generalize ((bndR (Cf.why ⟨mn, mx, sw, ts, ls, hs⟩) (bdF mn sw ts ls hs) ts.length).2.2 == 0) = ac at *
  generalize Cf.why ⟨mn, mx, sw, ts, ls, hs⟩ = y at *
  generalize oyY ⟨mn, mx, sw, ts, ls, hs⟩ = Y at *
  generalize hF1 : ts.flatMap tkc = F1 at *
  generalize hF3 : hs.flatMap thc = F3 at *
  have HF1 := Lib.hid hF1; have HF3 := Lib.hid hF3
  clear hF1 hF3
  go_enter Try.func30, Try.ntmps30
  go_upto_region 1 with fail
  refine name_world fun W hW => ?_
  have HC : Hid (W.heap[w.heap.size]? = some (.cells #[.int .i64 mn, .int .i64 mx, .int .i64 sw, .slice A ts.length ca, .slice B ls.length cb, .slice D hs.length cd] 29 (0, 0))) := Lib.hid (by rw [hW]; exact heap_alloc_new w _)
  have HB : Hid (Below w.heap.size w W) := Lib.hid (by rw [hW]; exact (Below.refl _ _).alloc (Nat.le_refl _) _)
  have m1 := Lib.hid (fun w' (h : Hid (Below W.heap.size W w')) => (Ht.out.below HB.out).below h.out)
  have m2 := Lib.hid (fun w' (h : Hid (Below W.heap.size W w')) => (Hl.out.below HB.out).below h.out)
  have m3 := Lib.hid (fun w' (h : Hid (Below W.heap.size W w')) => (Hh.out.below HB.out).below h.out)
  have hR := fun w' (h : Hid (Below W.heap.size W w')) => (box_rules (box_keep HC.out h.out)).1
  have hS0 := S_refl' W
  have q0 := hR _ hS0
  have lW := box_lt HC.out
  clear hW
  go_wp2_with fail
  refine (c2.out _ (m1.out _ hS0) (m2.out _ hS0) (m3.out _ hS0)).mono ?_
  rintro e w1 ⟨rfl, hb⟩
  have hS1 := S_call' hS0 hb
  have q1 := hR _ hS1
  clear hb q0
  by_cases hy : y = 0
  · subst hy
    rw [if_neg (by simp)] at HY
    have hy1 : ((0 : Int) != 0) = false := by decide
    go_wp2_with fail
    refine (c3.out _ (m1.out _ hS1) (m2.out _ hS1) (m3.out _ hS1)).mono ?_
    rintro e w2 ⟨rfl, hb⟩
    have hS2 := S_call' hS1 hb
    have q2 := hR _ hS2
    clear hb q1 c2 c3
    cases ac with
    | true =>
      have HY0 : Hid (Y = 0) := Lib.hid (by rw [HY.out]; rfl)
      clear HY
      have HC2 := Lib.hid (box_keep HC.out hS2.out)
      have hT2 := Lib.hid (m1.out _ hS2); have hH2 := Lib.hid (m3.out _ hS2)
      have hB2 := Lib.hid (HB.out.trans (hS2.out.mono HB.out.size))
      have l2 := box_lt HC2.out
      have l2' : w.heap.size < w2.heap.size := l2
      clear m1 m2 m3 hR q2 hS0 hS1 hS2 HC HB
      obtain ⟨cx, cy⟩ := box_rules HC2.out
      have hk2 := S_refl' w2
      go_wp2_with fail
      go_region_with (first
        | (go_at_call 42; refine (k1.out _ ?_).mono ?_; exact hT2.out; rintro e wT ⟨A1, c1, rfl, hoT, hbT'⟩; have hbT := undrew hbT'; have HCT := Lib.hid (box_keep HC2.out hbT); obtain ⟨tx, ty⟩ := box_rules HCT.out; have lT := box_lt HCT.out)
        | (go_at_call 43; refine (k3.out _ ?_).mono ?_; exact hH2.out.below hbT; rintro e wH ⟨D1, d1, rfl, hoH, hbH⟩; have HCH := Lib.hid (box_keep HCT.out hbH); obtain ⟨ux, uy⟩ := box_rules HCH.out; have lH := box_lt HCH.out))
      all_goals go_wp2
      all_goals
        refine bodyPost_ret (v := .tuple #[.pointer (some ⟨wH.heap.size, 0, none⟩), .int .i64 0]) (by simp [results, Try.f30, go_sem]) rfl ?_
        rw [HY0.out]
        exact sopen_fin HF1.out HF3.out l2' hB2.out hbT hbH hoT hoH
    | false =>
      have HY0 : Hid (Y = 11) := Lib.hid (by rw [HY.out]; rfl)
      clear HY
      go_wp2
      refine bodyPost_ret (v := .tuple #[.pointer none, .int .i64 11]) (by simp [results, Try.f30, go_sem]) rfl ?_
      exact ⟨_, by rw [HY0.out], HB.out.trans (hS2.out.mono HB.out.size), fun _ => rfl, fun h => (by rw [HY0.out] at h; cases h)⟩
  · rw [if_pos hy] at HY
    have hy1 : (y != 0) = true := by simpa using hy
    go_wp2
    refine bodyPost_ret (v := .tuple #[.pointer none, .int .i64 y]) (by simp [results, Try.f30, go_sem]) rfl ?_
    exact ⟨_, by rw [HY.out], HB.out.trans (hS1.out.mono HB.out.size), fun _ => rfl, fun h => (by rw [HY.out] at h; exact absurd h hy)⟩
end Go.Proofs.Ytlnjeelbfokdpaa
/- Package sense: the walks of search, with each of the numbers that are put. Conditions: a probe; what putting does. -/
namespace Go.Proofs.Ytlnjeelbfokdpaa
open Go.RowKit Go.Shelf

/-- A probe whose number is put through one more block. -/
def PrQ (mn mx : Int) (nt nl nh p base : Nat) (A1 : Option Addr) (c1 : Nat) (B : Option Addr) (cb : Nat) (D1 : Option Addr) (d1 : Nat) (f bq : Nat) (cv : Value) (ct : TypeId) (sF : Int → Int) (tF : Int → List Tk) (hF : Int → List Th) (w : World) (n : Int) (wx : World) : Prop :=
  PrI mn mx (sF n) nt nl nh p base A1 c1 B cb D1 d1 (.func (.func f) #[] #[.pointer (some ⟨bq, 0, none⟩)]) w (tF n) (hF n) wx ∧ wx.heap[bq]? = some (.cells #[cv] ct (0, 0))
theorem PrQ.below {mn mx : Int} {nt nl nh p base : Nat} {A1 : Option Addr} {c1 : Nat} {B : Option Addr} {cb : Nat} {D1 : Option Addr} {d1 : Nat} {f bq : Nat} {cv : Value} {ct : TypeId} {sF : Int → Int} {tF : Int → List Tk} {hF : Int → List Th} {w : World} {n : Int} {wx wy : World}
    (h : PrQ mn mx nt nl nh p base A1 c1 B cb D1 d1 f bq cv ct sF tF hF w n wx) (hb : Below wx.heap.size wx wy) : PrQ mn mx nt nl nh p base A1 c1 B cb D1 d1 f bq cv ct sF tF hF w n wy := ⟨h.1.below hb, box_keep h.2 hb⟩
set_option maxHeartbeats 4000000 in
set_option maxRecDepth 100000 in
theorem srch_cost {mn mx : Int} {nt nl nh p base : Nat} {A1 : Option Addr} {c1 : Nat} {B : Option Addr} {cb : Nat} {D1 : Option Addr} {d1 : Nat} {bq : Nat} {cv : Value} {ct : TypeId} {sF : Int → Int} {tF : Int → List Tk} {hF : Int → List Th} {w : World} (P : Int → Bool)
    (hput : ∀ n n' wx, PrQ mn mx nt nl nh p base A1 c1 B cb D1 d1 31 bq cv ct sF tF hF w n wx → Calls Try.prog 31 #[.int .i64 n', .pointer (some ⟨bq, 0, none⟩)] wx fun e w' => (∃ v, e = .returned v) ∧ PrQ mn mx nt nl nh p base A1 c1 B cb D1 d1 31 bq cv ct sF tF hF w n' w')
    (hacc : ∀ n wx, PrQ mn mx nt nl nh p base A1 c1 B cb D1 d1 31 bq cv ct sF tF hF w n wx → Calls Try.prog 10 #[cfv mn mx (sF n) A1 nt c1 B nl cb D1 nh d1] wx fun e w' => e = .returned (.bool (P n)) ∧ Below wx.heap.size wx w')
    (lo hi n0 : Int) (hlo : 0 ≤ lo ∧ lo ≤ 4398046511104) (hhi : 0 ≤ hi ∧ hi ≤ 4398046511104) (wx : World) (hI : PrQ mn mx nt nl nh p base A1 c1 B cb D1 d1 31 bq cv ct sF tF hF w n0 wx) :
    Calls Try.prog 32 #[.pointer (some ⟨p, 0, none⟩), .int .i64 lo, .int .i64 hi] wx fun e w' => e = .returned (.int .i64 (srS P lo hi)) ∧ Below w.heap.size w w' := by
  have HP := Lib.hid hput; have HA := Lib.hid hacc; have HI := Lib.hid hI
  clear hput hacc hI
  unfold cfv at HA
  generalize hN : srS P lo hi = N
  have HN := Lib.hid hN
  clear hN
  go_enter Try.func32, Try.ntmps32
  go_wp2
  go_loopw [1, 2] (fun a b wr => ∃ l h n : Int, a = .int .i64 l ∧ b = .int .i64 h ∧ PrQ mn mx nt nl nh p base A1 c1 B cb D1 d1 31 bq cv ct sF tF hF w n wr ∧ Hid (srS P l h = N) ∧ (0 ≤ l ∧ l ≤ 4398046511104) ∧ 0 ≤ h ∧ h ≤ 4398046511104) (fun a b _ => (intOf b - intOf a).toNat)
  case atStart => exact ⟨lo, hi, n0, rfl, rfl, HI.out, HN, hlo, hhi⟩
  case round =>
    obtain ⟨l, h, n, rfl, rfl, hI, HS, ⟨l1, l2⟩, h1, h2⟩ := hrel
    have HIr := Lib.hid hI
    clear hI
    have e1 : IntKind.i64.wrap (h - l) = h - l := IntWalk.i64_in _ (by omega)
    by_cases hgt : 1 < h - l
    · obtain ⟨px, py⟩ := box_rules HIr.out.1.boxp
      have HS2 := Lib.hid ((srS_step hgt).symm.trans HS.out)
      have hm : l ≤ l + (h - l) / 2 ∧ l + (h - l) / 2 ≤ h := by omega
      have hd0 : 0 ≤ (h - l) / 2 ∧ (h - l) / 2 ≤ h - l := by omega
      have hd1 : 0 < (h - l) / 2 ∧ (h - l) / 2 < h - l := by omega
      go_wp2_with fail
      refine (HP.out n _ wr HIr.out).mono ?_
      rintro e w2 ⟨⟨v, rfl⟩, hI2⟩
      have HI2 := Lib.hid hI2
      clear hI2 px py HIr
      obtain ⟨px, py⟩ := box_rules HI2.out.1.boxp
      go_wp2_with fail
      refine (HA.out _ w2 HI2.out).mono ?_
      rintro e w3 ⟨rfl, hb⟩
      have HI3 := Lib.hid (HI2.out.below hb)
      clear hb px py HI2
      generalize hPm : P (l + (h - l) / 2) = pm at *
      cases pm with
      | true =>
        rw [if_pos rfl] at HS2
        go_wp2
        refine ⟨⟨_, _, _, rfl, rfl, HI3.out, HS2, by omega, by omega⟩, ?_⟩
        simp only [intOf]; omega
      | false =>
        rw [if_neg (by simp)] at HS2
        go_wp2
        refine ⟨⟨_, _, _, rfl, rfl, HI3.out, HS2, by omega, by omega⟩, ?_⟩
        simp only [intOf]; omega
    · rw [srS_end hgt] at HS
      go_wp2
      go_ret
      exact ⟨by rw [← HS.out]; rfl, HIr.out.1.low⟩
set_option maxHeartbeats 4000000 in
set_option maxRecDepth 100000 in
theorem srch_switch {mn mx : Int} {nt nl nh p base : Nat} {A1 : Option Addr} {c1 : Nat} {B : Option Addr} {cb : Nat} {D1 : Option Addr} {d1 : Nat} {bq : Nat} {cv : Value} {ct : TypeId} {sF : Int → Int} {tF : Int → List Tk} {hF : Int → List Th} {w : World} (P : Int → Bool)
    (hput : ∀ n n' wx, PrQ mn mx nt nl nh p base A1 c1 B cb D1 d1 33 bq cv ct sF tF hF w n wx → Calls Try.prog 33 #[.int .i64 n', .pointer (some ⟨bq, 0, none⟩)] wx fun e w' => (∃ v, e = .returned v) ∧ PrQ mn mx nt nl nh p base A1 c1 B cb D1 d1 33 bq cv ct sF tF hF w n' w')
    (hacc : ∀ n wx, PrQ mn mx nt nl nh p base A1 c1 B cb D1 d1 33 bq cv ct sF tF hF w n wx → Calls Try.prog 10 #[cfv mn mx (sF n) A1 nt c1 B nl cb D1 nh d1] wx fun e w' => e = .returned (.bool (P n)) ∧ Below wx.heap.size wx w')
    (lo hi n0 : Int) (hlo : 0 ≤ lo ∧ lo ≤ 4398046511104) (hhi : 0 ≤ hi ∧ hi ≤ 4398046511104) (wx : World) (hI : PrQ mn mx nt nl nh p base A1 c1 B cb D1 d1 33 bq cv ct sF tF hF w n0 wx) :
    Calls Try.prog 32 #[.pointer (some ⟨p, 0, none⟩), .int .i64 lo, .int .i64 hi] wx fun e w' => e = .returned (.int .i64 (srS P lo hi)) ∧ Below w.heap.size w w' := by
  have HP := Lib.hid hput; have HA := Lib.hid hacc; have HI := Lib.hid hI
  clear hput hacc hI
  unfold cfv at HA
  generalize hN : srS P lo hi = N
  have HN := Lib.hid hN
  clear hN
  go_enter Try.func32, Try.ntmps32
  go_wp2
  go_loopw [1, 2] (fun a b wr => ∃ l h n : Int, a = .int .i64 l ∧ b = .int .i64 h ∧ PrQ mn mx nt nl nh p base A1 c1 B cb D1 d1 33 bq cv ct sF tF hF w n wr ∧ Hid (srS P l h = N) ∧ (0 ≤ l ∧ l ≤ 4398046511104) ∧ 0 ≤ h ∧ h ≤ 4398046511104) (fun a b _ => (intOf b - intOf a).toNat)
  case atStart => exact ⟨lo, hi, n0, rfl, rfl, HI.out, HN, hlo, hhi⟩
  case round =>
    obtain ⟨l, h, n, rfl, rfl, hI, HS, ⟨l1, l2⟩, h1, h2⟩ := hrel
    have HIr := Lib.hid hI
    clear hI
    have e1 : IntKind.i64.wrap (h - l) = h - l := IntWalk.i64_in _ (by omega)
    by_cases hgt : 1 < h - l
    · obtain ⟨px, py⟩ := box_rules HIr.out.1.boxp
      have HS2 := Lib.hid ((srS_step hgt).symm.trans HS.out)
      have hm : l ≤ l + (h - l) / 2 ∧ l + (h - l) / 2 ≤ h := by omega
      have hd0 : 0 ≤ (h - l) / 2 ∧ (h - l) / 2 ≤ h - l := by omega
      have hd1 : 0 < (h - l) / 2 ∧ (h - l) / 2 < h - l := by omega
      go_wp2_with fail
      refine (HP.out n _ wr HIr.out).mono ?_
      rintro e w2 ⟨⟨v, rfl⟩, hI2⟩
      have HI2 := Lib.hid hI2
      clear hI2 px py HIr
      obtain ⟨px, py⟩ := box_rules HI2.out.1.boxp
      go_wp2_with fail
      refine (HA.out _ w2 HI2.out).mono ?_
      rintro e w3 ⟨rfl, hb⟩
      have HI3 := Lib.hid (HI2.out.below hb)
      clear hb px py HI2
      generalize hPm : P (l + (h - l) / 2) = pm at *
      cases pm with
      | true =>
        rw [if_pos rfl] at HS2
        go_wp2
        refine ⟨⟨_, _, _, rfl, rfl, HI3.out, HS2, by omega, by omega⟩, ?_⟩
        simp only [intOf]; omega
      | false =>
        rw [if_neg (by simp)] at HS2
        go_wp2
        refine ⟨⟨_, _, _, rfl, rfl, HI3.out, HS2, by omega, by omega⟩, ?_⟩
        simp only [intOf]; omega
    · rw [srS_end hgt] at HS
      go_wp2
      go_ret
      exact ⟨by rw [← HS.out]; rfl, HIr.out.1.low⟩
set_option maxHeartbeats 4000000 in
set_option maxRecDepth 100000 in
theorem srch_budget {mn mx : Int} {nt nl nh p base : Nat} {A1 : Option Addr} {c1 : Nat} {B : Option Addr} {cb : Nat} {D1 : Option Addr} {d1 : Nat} {bq : Nat} {cv : Value} {ct : TypeId} {sF : Int → Int} {tF : Int → List Tk} {hF : Int → List Th} {w : World} (P : Int → Bool)
    (hput : ∀ n n' wx, PrQ mn mx nt nl nh p base A1 c1 B cb D1 d1 34 bq cv ct sF tF hF w n wx → Calls Try.prog 34 #[.int .i64 n', .pointer (some ⟨bq, 0, none⟩)] wx fun e w' => (∃ v, e = .returned v) ∧ PrQ mn mx nt nl nh p base A1 c1 B cb D1 d1 34 bq cv ct sF tF hF w n' w')
    (hacc : ∀ n wx, PrQ mn mx nt nl nh p base A1 c1 B cb D1 d1 34 bq cv ct sF tF hF w n wx → Calls Try.prog 10 #[cfv mn mx (sF n) A1 nt c1 B nl cb D1 nh d1] wx fun e w' => e = .returned (.bool (P n)) ∧ Below wx.heap.size wx w')
    (lo hi n0 : Int) (hlo : 0 ≤ lo ∧ lo ≤ 4398046511104) (hhi : 0 ≤ hi ∧ hi ≤ 4398046511104) (wx : World) (hI : PrQ mn mx nt nl nh p base A1 c1 B cb D1 d1 34 bq cv ct sF tF hF w n0 wx) :
    Calls Try.prog 32 #[.pointer (some ⟨p, 0, none⟩), .int .i64 lo, .int .i64 hi] wx fun e w' => e = .returned (.int .i64 (srS P lo hi)) ∧ Below w.heap.size w w' := by
  have HP := Lib.hid hput; have HA := Lib.hid hacc; have HI := Lib.hid hI
  clear hput hacc hI
  unfold cfv at HA
  generalize hN : srS P lo hi = N
  have HN := Lib.hid hN
  clear hN
  go_enter Try.func32, Try.ntmps32
  go_wp2
  go_loopw [1, 2] (fun a b wr => ∃ l h n : Int, a = .int .i64 l ∧ b = .int .i64 h ∧ PrQ mn mx nt nl nh p base A1 c1 B cb D1 d1 34 bq cv ct sF tF hF w n wr ∧ Hid (srS P l h = N) ∧ (0 ≤ l ∧ l ≤ 4398046511104) ∧ 0 ≤ h ∧ h ≤ 4398046511104) (fun a b _ => (intOf b - intOf a).toNat)
  case atStart => exact ⟨lo, hi, n0, rfl, rfl, HI.out, HN, hlo, hhi⟩
  case round =>
    obtain ⟨l, h, n, rfl, rfl, hI, HS, ⟨l1, l2⟩, h1, h2⟩ := hrel
    have HIr := Lib.hid hI
    clear hI
    have e1 : IntKind.i64.wrap (h - l) = h - l := IntWalk.i64_in _ (by omega)
    by_cases hgt : 1 < h - l
    · obtain ⟨px, py⟩ := box_rules HIr.out.1.boxp
      have HS2 := Lib.hid ((srS_step hgt).symm.trans HS.out)
      have hm : l ≤ l + (h - l) / 2 ∧ l + (h - l) / 2 ≤ h := by omega
      have hd0 : 0 ≤ (h - l) / 2 ∧ (h - l) / 2 ≤ h - l := by omega
      have hd1 : 0 < (h - l) / 2 ∧ (h - l) / 2 < h - l := by omega
      go_wp2_with fail
      refine (HP.out n _ wr HIr.out).mono ?_
      rintro e w2 ⟨⟨v, rfl⟩, hI2⟩
      have HI2 := Lib.hid hI2
      clear hI2 px py HIr
      obtain ⟨px, py⟩ := box_rules HI2.out.1.boxp
      go_wp2_with fail
      refine (HA.out _ w2 HI2.out).mono ?_
      rintro e w3 ⟨rfl, hb⟩
      have HI3 := Lib.hid (HI2.out.below hb)
      clear hb px py HI2
      generalize hPm : P (l + (h - l) / 2) = pm at *
      cases pm with
      | true =>
        rw [if_pos rfl] at HS2
        go_wp2
        refine ⟨⟨_, _, _, rfl, rfl, HI3.out, HS2, by omega, by omega⟩, ?_⟩
        simp only [intOf]; omega
      | false =>
        rw [if_neg (by simp)] at HS2
        go_wp2
        refine ⟨⟨_, _, _, rfl, rfl, HI3.out, HS2, by omega, by omega⟩, ?_⟩
        simp only [intOf]; omega
    · rw [srS_end hgt] at HS
      go_wp2
      go_ret
      exact ⟨by rw [← HS.out]; rfl, HIr.out.1.low⟩
end Go.Proofs.Ytlnjeelbfokdpaa
/- Package sense: what putting a number does to a probe. No premise of its own. -/
namespace Go.Proofs.Ytlnjeelbfokdpaa
open Go.RowKit Go.Shelf

theorem set_self {α : Type} {d : α} : ∀ {l : List α} {i : Nat}, i < l.length → l.set i (l.getD i d) = l
  | x :: l, 0, _ => rfl
  | x :: l, i + 1, h => by
    show x :: l.set i (l.getD i d) = x :: l
    rw [set_self (by simpa using h)]
theorem getD_set_at {α : Type} {d y : α} : ∀ {l : List α} {i : Nat}, i < l.length → (l.set i y).getD i d = y
  | x :: l, 0, _ => rfl
  | x :: l, i + 1, h => getD_set_at (l := l) (i := i) (by simpa using h)
def tkPut (ts : List Tk) (i : Nat) (n : Int) : List Tk := ts.set i { ts.getD i tk0 with cost := n }
def thPut (hs : List Th) (i : Nat) (n : Int) : List Th := hs.set i { hs.getD i ⟨0, 0, 0, 0⟩ with budget := n }
theorem tkPut_len (ts : List Tk) (i : Nat) (n : Int) : (tkPut ts i n).length = ts.length := by simp [tkPut]
theorem thPut_len (hs : List Th) (i : Nat) (n : Int) : (thPut hs i n).length = hs.length := by simp [thPut]
theorem tkPut_put {ts : List Tk} {i : Nat} (h : i < ts.length) (n m : Int) : (tkPut ts i n).set i { (tkPut ts i n).getD i tk0 with cost := m } = tkPut ts i m := by
  unfold tkPut
  rw [getD_set_at h, List.set_set]
theorem thPut_put {hs : List Th} {i : Nat} (h : i < hs.length) (n m : Int) : (thPut hs i n).set i { (thPut hs i n).getD i ⟨0, 0, 0, 0⟩ with budget := m } = thPut hs i m := by
  unfold thPut
  rw [getD_set_at h, List.set_set]
theorem tkPut_self {ts : List Tk} {i : Nat} (h : i < ts.length) : tkPut ts i (ts.getD i tk0).cost = ts := set_self h
theorem thPut_self {hs : List Th} {i : Nat} (h : i < hs.length) : thPut hs i (hs.getD i ⟨0, 0, 0, 0⟩).budget = hs := set_self h
theorem tkPut_prio {ts : List Tk} {i : Nat} {n p : Int} (hi : i < ts.length) (h : p ∈ (tkPut ts i n).map (·.prio)) : p ∈ ts.map (·.prio) := by
  obtain ⟨t, ht, rfl⟩ := List.mem_map.1 h
  rcases List.mem_or_eq_of_mem_set (show t ∈ ts.set i _ from ht) with h1 | rfl
  · exact List.mem_map.2 ⟨t, h1, rfl⟩
  · exact List.mem_map.2 ⟨_, getD_mem (d := tk0) hi, rfl⟩
theorem thPut_prio {hs : List Th} {i : Nat} {n p : Int} (hi : i < hs.length) (h : p ∈ (thPut hs i n).map (·.prio)) : p ∈ hs.map (·.prio) := by
  obtain ⟨t, ht, rfl⟩ := List.mem_map.1 h
  rcases List.mem_or_eq_of_mem_set (show t ∈ hs.set i _ from ht) with h1 | rfl
  · exact List.mem_map.2 ⟨t, h1, rfl⟩
  · exact List.mem_map.2 ⟨_, getD_mem (d := ⟨0, 0, 0, 0⟩) hi, rfl⟩
section
variable {mn mx sw : Int} {nt nl nh p base : Nat} {A1 : Option Addr} {c1 : Nat} {B : Option Addr} {cb : Nat} {D1 : Option Addr} {d1 : Nat} {fv : Value} {a : Addr} {w : World} {T : List Tk} {H : List Th} {wx : World}
theorem PrI.putT (h : PrI mn mx sw nt nl nh p base (some a) c1 B cb D1 d1 fv w T H wx) {m : Nat} (hm : m < T.length) (v : Int) :
    PrI mn mx sw nt nl nh p base (some a) c1 B cb D1 d1 fv w (T.set m { T.getD m tk0 with cost := v }) H (wx.setCell ⟨(a.add (m * 10)).block, (a.add (m * 10)).off + 5, none⟩ (.int .i64 v)) := by
  obtain ⟨b1, b2⟩ := own_blk h.o1 (m * 10)
  have b3 := own_apart_box h.o1 h.boxp (by decide)
  have b4 : p ≠ (a.add (m * 10)).block := fun e => b3 (by rw [b2, e])
  refine ⟨box_far h.boxp (p := ⟨(a.add (m * 10)).block, (a.add (m * 10)).off + 5, none⟩) b4 _, ?_, ?_, h.low.setCell (p := ⟨(a.add (m * 10)).block, (a.add (m * 10)).off + 5, none⟩) (Nat.le_trans h.bl.1 b1) _, h.bl⟩
  · rw [← flat_set (f := tkc) (k := 10) (fun _ => rfl) (d := tk0) T m 5 _ (.int .i64 v) hm (by decide) rfl]; exact own_put h.o1 (m * 10) 5 _
  · exact own_setK h.o3 (p := ⟨(a.add (m * 10)).block, (a.add (m * 10)).off + 5, none⟩) (own_apart h.o1 h.o3 (by decide) b2) _
theorem PrI.putH (h : PrI mn mx sw nt nl nh p base A1 c1 B cb (some a) d1 fv w T H wx) {m : Nat} (hm : m < H.length) (v : Int) :
    PrI mn mx sw nt nl nh p base A1 c1 B cb (some a) d1 fv w T (H.set m { H.getD m ⟨0, 0, 0, 0⟩ with budget := v }) (wx.setCell ⟨(a.add (m * 4)).block, (a.add (m * 4)).off + 1, none⟩ (.int .i64 v)) := by
  obtain ⟨b1, b2⟩ := own_blk h.o3 (m * 4)
  have b3 := own_apart_box h.o3 h.boxp (by decide)
  have b4 : p ≠ (a.add (m * 4)).block := fun e => b3 (by rw [b2, e])
  refine ⟨box_far h.boxp (p := ⟨(a.add (m * 4)).block, (a.add (m * 4)).off + 1, none⟩) b4 _, ?_, ?_, h.low.setCell (p := ⟨(a.add (m * 4)).block, (a.add (m * 4)).off + 1, none⟩) (Nat.le_trans h.bl.1 b1) _, h.bl⟩
  · exact own_setK h.o1 (p := ⟨(a.add (m * 4)).block, (a.add (m * 4)).off + 1, none⟩) (own_apart h.o3 h.o1 (by decide) b2) _
  · rw [← flat_set (f := thc) (k := 4) (fun _ => rfl) (d := ⟨0, 0, 0, 0⟩) H m 1 _ (.int .i64 v) hm (by decide) rfl]; exact own_put h.o3 (m * 4) 1 _
theorem PrI.putS (h : PrI mn mx sw nt nl nh p base A1 c1 B cb D1 d1 fv w T H wx) (v : Int) :
    PrI mn mx v nt nl nh p base A1 c1 B cb D1 d1 fv w T H (wx.setCell ⟨p, 2, none⟩ (.int .i64 v)) :=
  ⟨box_set (i := 2) h.boxp _, own_setK h.o1 (p := ⟨p, 2, none⟩) (own_apart_box h.o1 h.boxp (by decide)) _, own_setK h.o3 (p := ⟨p, 2, none⟩) (own_apart_box h.o3 h.boxp (by decide)) _,
    h.low.setCell (p := ⟨p, 2, none⟩) (Nat.le_trans h.bl.1 h.bl.2) _, h.bl⟩
theorem PrI.putF (h : PrI mn mx sw nt nl nh p base A1 c1 B cb D1 d1 fv w T H wx) (v : Value) :
    PrI mn mx sw nt nl nh p base A1 c1 B cb D1 d1 v w T H (wx.setCell ⟨p, 6, none⟩ v) :=
  ⟨box_set (i := 6) h.boxp _, own_setK h.o1 (p := ⟨p, 6, none⟩) (own_apart_box h.o1 h.boxp (by decide)) _, own_setK h.o3 (p := ⟨p, 6, none⟩) (own_apart_box h.o3 h.boxp (by decide)) _,
    h.low.setCell (p := ⟨p, 6, none⟩) (Nat.le_trans h.bl.1 h.bl.2) _, h.bl⟩
end
/-- A probe is accepted as its configuration is. -/
theorem acc_pr {mn mx sw : Int} {nt nl nh p base : Nat} {A1 : Option Addr} {c1 : Nat} {B : Option Addr} {cb : Nat} {D1 : Option Addr} {d1 : Nat} {fv : Value} {w : World} {T : List Tk} {H : List Th} {wx : World} (ls : List Ln)
    (h : PrI mn mx sw nt nl nh p base A1 c1 B cb D1 d1 fv w T H wx) (hT : T.length = nt) (hL : ls.length = nl) (hH : H.length = nh) (h1 : nt ≤ 1048576) (h2 : nl ≤ 1048576) (h3 : nh ≤ 1048576)
    (hl : Rd w B (ls.flatMap lnc)) (hmx : I64 mx) (ht64 : ∀ p ∈ T.map (·.prio) ++ H.map (·.prio), I64 p) :
    Calls Try.prog 10 #[cfv mn mx sw A1 nt c1 B nl cb D1 nh d1] wx fun e w' => e = .returned (.bool (accB ⟨mn, mx, sw, T, ls, H⟩)) ∧ Below wx.heap.size wx w' := by
  subst hT hL hH
  exact accept_any mn mx sw T ls H A1 c1 B cb D1 d1 wx h1 h2 h3 (own_rdK h.o1) (hl.below h.low) (own_rdK h.o3) hmx ht64
set_option maxHeartbeats 2000000 in
theorem cost_put {mn mx sw : Int} {nt nl nh p base : Nat} {a : Addr} {c1 : Nat} {B : Option Addr} {cb : Nat} {D1 : Option Addr} {d1 : Nat} {bq : Nat} {ts : List Tk} {hs : List Th} {i : Nat} (hi : i < ts.length) {w : World} (n n' : Int) (wx : World)
    (h : PrQ mn mx nt nl nh p base (some a) c1 B cb D1 d1 31 bq (.pointer (some (a.add (i * 10)))) 76 (fun _ => sw) (tkPut ts i) (fun _ => hs) w n wx) :
    Calls Try.prog 31 #[.int .i64 n', .pointer (some ⟨bq, 0, none⟩)] wx fun e w' => (∃ v, e = .returned v) ∧ PrQ mn mx nt nl nh p base (some a) c1 B cb D1 d1 31 bq (.pointer (some (a.add (i * 10)))) 76 (fun _ => sw) (tkPut ts i) (fun _ => hs) w n' w' := by
  have hi2 : i < (tkPut ts i n).length := by rw [tkPut_len]; exact hi
  have hf : PrQ mn mx nt nl nh p base (some a) c1 B cb D1 d1 31 bq (.pointer (some (a.add (i * 10)))) 76 (fun _ => sw) (tkPut ts i) (fun _ => hs) w n' (wx.setCell ⟨(a.add (i * 10)).block, (a.add (i * 10)).off + 5, none⟩ (.int .i64 n')) := by
    have h2 := h.1.putT hi2 n'
    rw [tkPut_put hi] at h2
    have b3 := own_apart_box h.1.o1 h.2 (by decide)
    obtain ⟨_, b2⟩ := own_blk h.1.o1 (i * 10)
    exact ⟨h2, box_far h.2 (p := ⟨(a.add (i * 10)).block, (a.add (i * 10)).off + 5, none⟩) (fun e => b3 (by rw [b2]; exact congrArg some e.symm)) _⟩
  have Hf := Lib.hid hf
  obtain ⟨a', x, he, hx, ⟨-, -, -, -⟩, -, q5, -, -, -, -⟩ := (own_rdK h.1.o1).tkAt hi2
  cases he
  have fz := own_froz h.1.o1 (i * 10) 5
  obtain ⟨qx, qy⟩ := box_rules h.2
  clear hf h hx
  go_enter Try.func31, Try.ntmps31
  go_wp2
  go_end0
  exact ⟨⟨_, rfl⟩, Hf.out⟩
set_option maxHeartbeats 2000000 in
theorem budget_put {mn mx sw : Int} {nt nl nh p base : Nat} {a : Addr} {c1 : Nat} {B : Option Addr} {cb : Nat} {A1 : Option Addr} {d1 : Nat} {bq : Nat} {ts : List Tk} {hs : List Th} {i : Nat} (hi : i < hs.length) {w : World} (n n' : Int) (wx : World)
    (h : PrQ mn mx nt nl nh p base A1 c1 B cb (some a) d1 34 bq (.pointer (some (a.add (i * 4)))) 81 (fun _ => sw) (fun _ => ts) (thPut hs i) w n wx) :
    Calls Try.prog 34 #[.int .i64 n', .pointer (some ⟨bq, 0, none⟩)] wx fun e w' => (∃ v, e = .returned v) ∧ PrQ mn mx nt nl nh p base A1 c1 B cb (some a) d1 34 bq (.pointer (some (a.add (i * 4)))) 81 (fun _ => sw) (fun _ => ts) (thPut hs i) w n' w' := by
  have hi2 : i < (thPut hs i n).length := by rw [thPut_len]; exact hi
  have hf : PrQ mn mx nt nl nh p base A1 c1 B cb (some a) d1 34 bq (.pointer (some (a.add (i * 4)))) 81 (fun _ => sw) (fun _ => ts) (thPut hs i) w n' (wx.setCell ⟨(a.add (i * 4)).block, (a.add (i * 4)).off + 1, none⟩ (.int .i64 n')) := by
    have h2 := h.1.putH hi2 n'
    rw [thPut_put hi] at h2
    have b3 := own_apart_box h.1.o3 h.2 (by decide)
    obtain ⟨_, b2⟩ := own_blk h.1.o3 (i * 4)
    exact ⟨h2, box_far h.2 (p := ⟨(a.add (i * 4)).block, (a.add (i * 4)).off + 1, none⟩) (fun e => b3 (by rw [b2]; exact congrArg some e.symm)) _⟩
  have Hf := Lib.hid hf
  obtain ⟨a', x, he, hx, -, q1, -, -⟩ := (own_rdK h.1.o3).thAt hi2
  cases he
  have fz := own_froz h.1.o3 (i * 4) 1
  obtain ⟨qx, qy⟩ := box_rules h.2
  clear hf h hx
  go_enter Try.func34, Try.ntmps34
  go_wp2
  go_end0
  exact ⟨⟨_, rfl⟩, Hf.out⟩
set_option maxHeartbeats 2000000 in
theorem switch_put {mn mx : Int} {nt nl nh p base : Nat} {c1 : Nat} {B : Option Addr} {cb : Nat} {A1 D1 : Option Addr} {d1 : Nat} {bq : Nat} {ts : List Tk} {hs : List Th} {w : World} (n n' : Int) (wx : World)
    (h : PrQ mn mx nt nl nh p base A1 c1 B cb D1 d1 33 bq (.pointer (some ⟨p, 0, none⟩)) 73 (fun n => n) (fun _ => ts) (fun _ => hs) w n wx) :
    Calls Try.prog 33 #[.int .i64 n', .pointer (some ⟨bq, 0, none⟩)] wx fun e w' => (∃ v, e = .returned v) ∧ PrQ mn mx nt nl nh p base A1 c1 B cb D1 d1 33 bq (.pointer (some ⟨p, 0, none⟩)) 73 (fun n => n) (fun _ => ts) (fun _ => hs) w n' w' := by
  have hf : PrQ mn mx nt nl nh p base A1 c1 B cb D1 d1 33 bq (.pointer (some ⟨p, 0, none⟩)) 73 (fun n => n) (fun _ => ts) (fun _ => hs) w n' (wx.setCell ⟨p, 2, none⟩ (.int .i64 n')) := by
    have hne : bq ≠ p := fun e => by
      have h1 := h.1.boxp
      have h2 := h.2
      rw [e, h1] at h2
      injection h2 with h2
      injection h2 with h3 h4
      exact absurd h4 (by decide)
    exact ⟨h.1.putS n', box_far h.2 (p := ⟨p, 2, none⟩) hne _⟩
  have Hf := Lib.hid hf
  obtain ⟨px, py⟩ := box_rules h.1.boxp
  obtain ⟨qx, qy⟩ := box_rules h.2
  clear hf h
  go_enter Try.func33, Try.ntmps33
  go_wp2
  go_end0
  exact ⟨⟨_, rfl⟩, Hf.out⟩
end Go.Proofs.Ytlnjeelbfokdpaa

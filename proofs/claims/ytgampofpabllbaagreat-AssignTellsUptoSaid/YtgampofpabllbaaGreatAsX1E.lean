/- Package assign: priorities put, places given out: plain laws, no program in sight. -/
import Derived.Test.YtgampofpabllbaaGreatRtTWE
import Derived.Test.YtgampofpabllbaaGreatKitK
import Derived.Test.YtgampofpabllbaaGreatShelf
import Derived.Lib.RowBridge
import Derived.Test.YtgampofpabllbaaGreatWhyP
namespace Go.Proofs.YtgampofpabllbaaGreat
open Go.RowKit

/-- The first k priorities put. -/
def pK (ts : List Tk) (q : List Int) : Nat → List Tk
  | 0 => ts
  | k + 1 => (pK ts q k).set k { (pK ts q k).getD k tk0 with prio := q.getD k 0 }
theorem pK_len (ts : List Tk) (q : List Int) : ∀ k, (pK ts q k).length = ts.length
  | 0 => rfl
  | k + 1 => by show ((pK ts q k).set _ _).length = _; rw [List.length_set, pK_len]
theorem getD_set_eq {α : Type} {d y : α} : ∀ {l : List α} {i : Nat}, i < l.length → (l.set i y).getD i d = y
  | x :: l, 0, _ => rfl
  | x :: l, i + 1, h => getD_set_eq (l := l) (i := i) (by simpa using h)
theorem getD_set_ne {α : Type} {d y : α} : ∀ {l : List α} {i k : Nat}, i ≠ k → (l.set i y).getD k d = l.getD k d
  | [], _, _, _ => rfl
  | _ :: _, 0, 0, h => absurd rfl h
  | _ :: _, 0, _ + 1, _ => rfl
  | _ :: _, _ + 1, 0, _ => rfl
  | _ :: l, i + 1, k + 1, h => getD_set_ne (l := l) (i := i) (k := k) (by omega)
theorem pK_get (ts : List Tk) (q : List Int) : ∀ k j, k ≤ ts.length → (pK ts q k).getD j tk0 = if j < k then { ts.getD j tk0 with prio := q.getD j 0 } else ts.getD j tk0
  | 0, _, _ => by rw [if_neg (by omega)]; rfl
  | k + 1, j, hk => by
    have ih := fun j => pK_get ts q k j (by omega)
    by_cases e : k = j
    · subst e
      show ((pK ts q k).set k _).getD k tk0 = _
      rw [getD_set_eq (by rw [pK_len]; omega), ih k, if_neg (by omega), if_pos (by omega)]
    · show ((pK ts q k).set k _).getD j tk0 = _
      rw [getD_set_ne e, ih j]
      by_cases h : j < k
      · rw [if_pos h, if_pos (by omega)]
      · rw [if_neg h, if_neg (by omega)]
def putP (ts : List Tk) (q : List Int) : List Tk := pK ts q ts.length
theorem putP_len (ts : List Tk) (q : List Int) : (putP ts q).length = ts.length := pK_len ..
theorem putP_get (ts : List Tk) (q : List Int) {j : Nat} (h : j < ts.length) : (putP ts q).getD j tk0 = { ts.getD j tk0 with prio := q.getD j 0 } := by
  unfold putP
  rw [pK_get _ _ _ _ (Nat.le_refl _), if_pos h]
theorem list_ext_getD {α : Type} {d : α} : ∀ {l m : List α}, l.length = m.length → (∀ k, k < l.length → l.getD k d = m.getD k d) → l = m
  | [], [], _, _ => rfl
  | x :: l, y :: m, h, h2 => by
    have e : x = y := h2 0 (by simp)
    rw [e, list_ext_getD (l := l) (m := m) (by simpa using h) fun k hk => h2 (k + 1) (by simpa using hk)]
theorem putP_put (ts : List Tk) (q q' : List Int) : putP (putP ts q) q' = putP ts q' :=
  list_ext_getD (d := tk0) (by rw [putP_len, putP_len, putP_len]) fun k hk => by
    rw [putP_len, putP_len] at hk
    rw [putP_get _ _ (by rw [putP_len]; exact hk), putP_get _ _ hk, putP_get _ _ hk]
theorem putP_prios (ts : List Tk) (q : List Int) (h : q.length = ts.length) : (putP ts q).map (·.prio) = q :=
  list_ext_getD (d := 0) (by rw [List.length_map, putP_len, h]) fun k hk => by
    rw [List.length_map, putP_len] at hk
    have e : ((putP ts q).map (·.prio)).getD k 0 = ((putP ts q).getD k tk0).prio := by
      have hk2 : k < (putP ts q).length := by rw [putP_len]; exact hk
      simp [List.getD, hk2]
    rw [e, putP_get _ _ hk]
theorem putP_self (ts : List Tk) : putP ts (ts.map (·.prio)) = ts :=
  list_ext_getD (d := tk0) (putP_len ..) fun k hk => by
    rw [putP_len] at hk
    rw [putP_get _ _ hk]
    have e : (ts.map (·.prio)).getD k 0 = (ts.getD k tk0).prio := by simp [List.getD, hk]
    rw [e]
/-- What a task's trial puts: i is whose place comes next, j which place is left next. -/
def trG (pl : List Int) (m task : Nat) : Nat → Nat → List Int → List Int
  | _, _, [] => []
  | i, j, p :: g => if i = task then pl.getD m 0 :: trG pl m task (i + 1) j g else if p = -1 then pl.getD j 0 :: trG pl m task (i + 1) (j + 1) g else p :: trG pl m task (i + 1) j g
def tryP (pl : List Int) (m task : Nat) (g : List Int) : List Int := trG pl m task 0 (m + 1) g
theorem trG_len (pl : List Int) (m task : Nat) : ∀ (g : List Int) (i j : Nat), (trG pl m task i j g).length = g.length
  | [], _, _ => rfl
  | p :: g, i, j => by
    unfold trG
    split
    · rw [List.length_cons, trG_len pl m task g]; rfl
    · split
      · rw [List.length_cons, trG_len pl m task g]; rfl
      · rw [List.length_cons, trG_len pl m task g]; rfl
theorem tryP_len (pl : List Int) (m task : Nat) (g : List Int) : (tryP pl m task g).length = g.length := trG_len ..
/-- Why a task of a trial has no bound. -/
def fitY (mn mx sw : Int) (ts : List Tk) (ls : List Ln) (hs : List Th) (i : Nat) : Int :=
  if askY (Cf.why ⟨mn, mx, sw, ts, ls, hs⟩) ts i = 0 then (boundR mn sw ts ls hs (ts.getD i tk0)).2 else askY (Cf.why ⟨mn, mx, sw, ts, ls, hs⟩) ts i
def fitB (mn mx sw : Int) (ts : List Tk) (ls : List Ln) (hs : List Th) (pl : List Int) (m : Nat) (g : List Int) (i : Nat) : Bool := fitY mn mx sw (putP ts (tryP pl m i g)) ls hs i == 0
/-- The first open one that fits, from i on. -/
def firstFit (f : Nat → Bool) : Nat → List Int → Option Nat
  | _, [] => none
  | i, p :: g => if p = -1 ∧ f i = true then some i else firstFit f (i + 1) g
def asgGo (fit : Nat → List Int → Nat → Bool) (pl : List Int) : Nat → Nat → List Int → Option (List Int)
  | 0, _, g => some g
  | k + 1, m, g => match firstFit (fit m g) 0 g with
    | none => none
    | some i => asgGo fit pl k (m + 1) (g.set i (pl.getD m 0))
def placesL (ts : List Tk) : List Int := (ts.map (·.prio)).mergeSort fun x y => decide (x ≤ y)
theorem places_len (ts : List Tk) : (placesL ts).length = ts.length := by unfold placesL; rw [List.length_mergeSort, List.length_map]
def asgP (mn mx sw : Int) (ts : List Tk) (ls : List Ln) (hs : List Th) : Option (List Int) :=
  asgGo (fitB mn mx sw ts ls hs (placesL ts)) (placesL ts) ts.length 0 (List.replicate ts.length (-1))
theorem firstFit_at {f : Nat → Bool} : ∀ {g : List Int} {i k : Nat}, firstFit f i g = some k → i ≤ k ∧ k < i + g.length ∧ g.getD (k - i) 0 = -1 ∧ f k = true
  | [], _, _, h => by cases h
  | p :: g, i, k, h => by
    unfold firstFit at h
    split at h
    · rename_i h1
      injection h with h
      subst h
      exact ⟨Nat.le_refl _, by simp, by simpa using h1.1, h1.2⟩
    · obtain ⟨a, b, c, d⟩ := firstFit_at h
      refine ⟨by omega, by simp; omega, ?_, d⟩
      rw [show k - i = (k - (i + 1)) + 1 by omega]
      exact c
end Go.Proofs.YtgampofpabllbaaGreat
/- Package vergeref26: the walk of Copy. Conditions: lists that read. -/
namespace Go.Proofs.YtgampofpabllbaaGreat
open Go.RowKit Go.Shelf

theorem skc_tk : SlK Tryz.prog 24 43 10 80 := SlK.mk' (z := .agg #[.int .u8 0, .int .i64 0, .int .i64 0, .int .i64 0, .int .i64 0, .int .i64 0, .int .i64 0, .int .i64 0, .int .i64 0, .int .i64 0]) Tryz.underlying24 (by kernel_rfl) rfl (by decide)
theorem skc_ln : SlK Tryz.prog 25 58 4 32 := SlK.mk' (z := .agg #[.int .i64 0, .int .i64 0, .int .i64 0, .int .i64 0]) Tryz.underlying25 (by kernel_rfl) rfl (by decide)
theorem skc_th : SlK Tryz.prog 26 60 4 32 := SlK.mk' (z := .agg #[.int .i64 0, .int .i64 0, .int .i64 0, .int .i64 0]) Tryz.underlying26 (by kernel_rfl) rfl (by decide)
theorem flat_len {α : Type} {f : α → List Value} {k : Nat} (hk : ∀ x, (f x).length = k) : ∀ l : List α, (l.flatMap f).length = l.length * k
  | [] => by simp
  | x :: l => by rw [List.flatMap_cons, List.length_append, flat_len hk l, hk, List.length_cons, Nat.add_mul]; omega
theorem flat_one {α : Type} {f : α → List Value} (hk : ∀ x, ∀ u ∈ f x, u.oneCell' = true) (l : List α) : ∀ u ∈ l.flatMap f, u.oneCell' = true := fun u hu => by
  obtain ⟨x, _, h⟩ := List.mem_flatMap.1 hu
  exact hk x u h
theorem tkc_one (x : Tk) : ∀ u ∈ tkc x, u.oneCell' = true := fun u h => by
  simp only [tkc, List.mem_cons, List.not_mem_nil, or_false] at h
  rcases h with rfl | rfl | rfl | rfl | rfl | rfl | rfl | rfl | rfl | rfl <;> rfl
theorem lnc_one (x : Ln) : ∀ u ∈ lnc x, u.oneCell' = true := fun u h => by
  simp only [lnc, List.mem_cons, List.not_mem_nil, or_false] at h
  rcases h with rfl | rfl | rfl | rfl <;> rfl
theorem thc_one' (x : Th) : ∀ u ∈ thc x, u.oneCell' = true := fun u h => by
  simp only [thc, List.mem_cons, List.not_mem_nil, or_false] at h
  rcases h with rfl | rfl | rfl | rfl <;> rfl
/-- A copy: three rows of its own. -/
def RetCy (mn mx sw : Int) (ts : List Tk) (ls : List Ln) (hs : List Th) (w : World) (e : Ending) (w' : World) : Prop :=
  ∃ (A : Option Addr) (ca : Nat) (B : Option Addr) (cb : Nat) (D : Option Addr) (cd : Nat), e = .returned (cfv mn mx sw A ts.length ca B ls.length cb D hs.length cd) ∧
    w'.ownsRow w.heap.size 43 10 (.slice A ts.length ca) ts.length (ts.flatMap tkc) ∧ w'.ownsRow w.heap.size 58 4 (.slice B ls.length cb) ls.length (ls.flatMap lnc) ∧
    w'.ownsRow w.heap.size 60 4 (.slice D hs.length cd) hs.length (hs.flatMap thc) ∧ Below w.heap.size w w'
set_option maxHeartbeats 4000000 in
set_option maxRecDepth 100000 in
theorem copy26_any (mn mx sw : Int) (ts : List Tk) (ls : List Ln) (hs : List Th) (A : Option Addr) (ca : Nat) (B : Option Addr) (cb : Nat) (D : Option Addr) (cd : Nat) (w : World)
    (hlt0 : ts.length ≤ 1048576) (hll : ls.length ≤ 1048576) (hlh : hs.length ≤ 1048576)
    (ht : Rd w A (ts.flatMap tkc)) (hl : Rd w B (ls.flatMap lnc)) (hh : Rd w D (hs.flatMap thc)) :
    Calls Tryz.prog 18 #[cfv mn mx sw A ts.length ca B ls.length cb D hs.length cd] w (RetCy mn mx sw ts ls hs w) := by
  have Ht := Lib.hid ht; have Hl := Lib.hid hl; have Hh := Lib.hid hh
  have L1 := Lib.hid (flat_len (f := tkc) (k := 10) (fun _ => rfl) ts)
  have L2 := Lib.hid (flat_len (f := lnc) (k := 4) (fun _ => rfl) ls)
  have L3 := Lib.hid (flat_len (f := thc) (k := 4) (fun _ => rfl) hs)
  have O1 := Lib.hid (flat_one tkc_one ts)
  have O2 := Lib.hid (flat_one lnc_one ls)
  have O3 := Lib.hid (flat_one thc_one' hs)
  clear ht hl hh
  unfold cfv RetCy
  generalize hF1 : ts.flatMap tkc = F1 at *
  generalize hF2 : ls.flatMap lnc = F2 at *
  generalize hF3 : hs.flatMap thc = F3 at *
  clear hF1 hF2 hF3
  go_enter Tryz.func18, Tryz.ntmps18
  go_upto_region 1 with fail
  refine name_world fun W hW => ?_
  have HC : Hid (W.heap[w.heap.size]? = some (.cells #[.int .i64 mn, .int .i64 mx, .int .i64 sw, .slice A ts.length ca, .slice B ls.length cb, .slice D hs.length cd] 28 (0, 0))) := Lib.hid (by rw [hW]; exact box_alloc (heap_alloc_new w _) _)
  have HR : Hid (W.heap[w.heap.size + 1]? = some (.cells #[.int .i64 0, .int .i64 0, .int .i64 0, .slice none 0 0, .slice none 0 0, .slice none 0 0] 28 (0, 0))) := Lib.hid (by rw [hW]; exact heap_new_at _ (by simp))
  have HB : Hid (Below w.heap.size w W) := Lib.hid (by rw [hW]; exact ((Below.refl _ _).alloc (Nat.le_refl _) _).alloc (by simp) _)
  have hs0 : W.heap.size = w.heap.size + 2 := by rw [hW]; simp
  clear hW
  generalize hb0 : w.heap.size = b0 at *
  obtain ⟨cx, cy⟩ := box_rules HC.out
  have hE1 : Hid ((W.alloc (.cells #[] 43)).ownsRow (b0 + 2) 43 10 (.slice (some ⟨(b0 + 2), 0, none⟩) 0 0) 0 []) := Lib.hid (by
    have h := own_emptyK W 43 (k := 10) (Nat.le_refl _)
    rw [hs0] at h; exact h)
  go_upto_region 2 with (at_builtin; go_loud (refine wp_appNK rfl _ _ skc_tk (by decide) rfl hE1.out rfl (by simp; omega) A ts.length ca _ rfl L1.out ((Ht.out.below (by rw [hb0]; exact HB.out)).alloc _) O1.out (by omega) ?_); intro A1 c1 v1 ho hb; have HCv1 := Lib.hid ((hb.block b0 (by omega)).trans (box_alloc HC.out _)); have HRv1 := Lib.hid ((hb.block (b0 + 1) (by omega)).trans (box_alloc HR.out _)); have HOv1 := Lib.hid ho; have HBv1 := Lib.hid (((Below.refl (b0 + 2) W).alloc (by omega) _).trans hb); clear ho hb; obtain ⟨cx1, cy1⟩ := box_rules HCv1.out)
  refine name_world fun W1 hW1 => ?_
  have HC1 : Hid (W1.heap[b0]? = some (.cells #[.int .i64 mn, .int .i64 mx, .int .i64 sw, .slice A1 ts.length c1, .slice B ls.length cb, .slice D hs.length cd] 28 (0, 0))) := Lib.hid (by rw [hW1]; exact box_set HCv1.out _)
  have HR1 : Hid (W1.heap[b0 + 1]? = some (.cells #[.int .i64 0, .int .i64 0, .int .i64 0, .slice none 0 0, .slice none 0 0, .slice none 0 0] 28 (0, 0))) := Lib.hid (by rw [hW1]; exact box_far HRv1.out (by show b0 + 1 ≠ b0; omega) _)
  have HO1 : Hid (W1.ownsRow (b0 + 2) 43 10 (.slice A1 ts.length c1) ts.length F1) := Lib.hid (by
    have h := HOv1.out
    rw [Nat.zero_add, List.nil_append] at h
    rw [hW1]; exact own_setK h (own_low h (by show b0 < _; omega)) _)
  have HB1 : Hid (Below b0 w W1) := Lib.hid (by rw [hW1]; exact (HB.out.trans (HBv1.out.mono (by omega))).setCell (p := ⟨b0, 3, none⟩) (Nat.le_refl _) _)
  have hs1 : b0 + 2 ≤ W1.heap.size := by
    have h1 := HBv1.out.size
    have h2 : W1.heap.size = v1.heap.size := by rw [hW1]; simp [World.setCell]
    omega
  clear hW1 cx1 cy1 HCv1 HRv1 HOv1 HBv1 hE1
  generalize hn1 : W1.heap.size = n1 at *
  obtain ⟨kx1, ky1⟩ := box_rules HC1.out
  have lw1 : b0 < W1.heap.size := by omega
  have lv1 : b0 < n1 := by omega
  have hE2 : Hid ((W1.alloc (.cells #[] 58)).ownsRow n1 58 4 (.slice (some ⟨n1, 0, none⟩) 0 0) 0 []) := Lib.hid (by
    have h := own_emptyK W1 58 (k := 4) (Nat.le_refl _)
    rw [hn1] at h; exact h)
  go_upto_region 3 with (at_builtin; go_loud (refine wp_appNK rfl _ _ skc_ln (by decide) rfl hE2.out rfl (by simp; omega) B ls.length cb _ rfl L2.out ((Hl.out.below (by rw [hb0]; exact HB1.out)).alloc _) O2.out (by omega) ?_); intro A2 c2 v2 ho hb; have HCv2 := Lib.hid ((hb.block b0 (by omega)).trans (box_alloc HC1.out _)); have HRv2 := Lib.hid ((hb.block (b0 + 1) (by omega)).trans (box_alloc HR1.out _)); have HOv2 := Lib.hid ho; have HBv2 := Lib.hid (((Below.refl n1 W1).alloc (by omega) _).trans hb); clear ho hb; obtain ⟨cx2, cy2⟩ := box_rules HCv2.out)
  refine name_world fun W2 hW2 => ?_
  have HC2 : Hid (W2.heap[b0]? = some (.cells #[.int .i64 mn, .int .i64 mx, .int .i64 sw, .slice A1 ts.length c1, .slice A2 ls.length c2, .slice D hs.length cd] 28 (0, 0))) := Lib.hid (by rw [hW2]; exact box_set HCv2.out _)
  have HR2 : Hid (W2.heap[b0 + 1]? = some (.cells #[.int .i64 0, .int .i64 0, .int .i64 0, .slice none 0 0, .slice none 0 0, .slice none 0 0] 28 (0, 0))) := Lib.hid (by rw [hW2]; exact box_far HRv2.out (by show b0 + 1 ≠ b0; omega) _)
  have HO2 : Hid (W2.ownsRow n1 58 4 (.slice A2 ls.length c2) ls.length F2) := Lib.hid (by
    have h := HOv2.out
    rw [Nat.zero_add, List.nil_append] at h
    rw [hW2]; exact own_setK h (own_low h (by show b0 < _; omega)) _)
  have HO1x : Hid (W2.ownsRow (b0 + 2) 43 10 (.slice A1 ts.length c1) ts.length F1) := Lib.hid (by
    rw [hW2]; exact own_setK (own_belowK HO1.out (by rw [hn1]; exact HBv2.out)) (own_low HO1.out (by show b0 < _; omega)) _)
  have HB2 : Hid (Below b0 w W2) := Lib.hid (by rw [hW2]; exact (HB1.out.trans (HBv2.out.mono (by omega))).setCell (p := ⟨b0, 4, none⟩) (Nat.le_refl _) _)
  have hs2 : b0 + 2 ≤ W2.heap.size := by
    have h1 := HBv2.out.size
    have h2 : W2.heap.size = v2.heap.size := by rw [hW2]; simp [World.setCell]
    omega
  clear hW2 cx2 cy2 HCv2 HRv2 HOv2 HBv2 hE2
  generalize hn2 : W2.heap.size = n2 at *
  obtain ⟨kx2, ky2⟩ := box_rules HC2.out
  have lw2 : b0 < W2.heap.size := by omega
  have lv2 : b0 < n2 := by omega
  have hE3 : Hid ((W2.alloc (.cells #[] 60)).ownsRow n2 60 4 (.slice (some ⟨n2, 0, none⟩) 0 0) 0 []) := Lib.hid (by
    have h := own_emptyK W2 60 (k := 4) (Nat.le_refl _)
    rw [hn2] at h; exact h)
  go_upto_region 4 with (at_builtin; go_loud (refine wp_appNK rfl _ _ skc_th (by decide) rfl hE3.out rfl (by simp; omega) D hs.length cd _ rfl L3.out ((Hh.out.below (by rw [hb0]; exact HB2.out)).alloc _) O3.out (by omega) ?_); intro A3 c3 v3 ho hb; have HCv3 := Lib.hid ((hb.block b0 (by omega)).trans (box_alloc HC2.out _)); have HRv3 := Lib.hid ((hb.block (b0 + 1) (by omega)).trans (box_alloc HR2.out _)); have HOv3 := Lib.hid ho; have HBv3 := Lib.hid (((Below.refl n2 W2).alloc (by omega) _).trans hb); clear ho hb; obtain ⟨cx3, cy3⟩ := box_rules HCv3.out)
  refine name_world fun W3 hW3 => ?_
  have HC3 : Hid (W3.heap[b0]? = some (.cells #[.int .i64 mn, .int .i64 mx, .int .i64 sw, .slice A1 ts.length c1, .slice A2 ls.length c2, .slice A3 hs.length c3] 28 (0, 0))) := Lib.hid (by rw [hW3]; exact box_set HCv3.out _)
  have HR3 : Hid (W3.heap[b0 + 1]? = some (.cells #[.int .i64 0, .int .i64 0, .int .i64 0, .slice none 0 0, .slice none 0 0, .slice none 0 0] 28 (0, 0))) := Lib.hid (by rw [hW3]; exact box_far HRv3.out (by show b0 + 1 ≠ b0; omega) _)
  have HO3 : Hid (W3.ownsRow n2 60 4 (.slice A3 hs.length c3) hs.length F3) := Lib.hid (by
    have h := HOv3.out
    rw [Nat.zero_add, List.nil_append] at h
    rw [hW3]; exact own_setK h (own_low h (by show b0 < _; omega)) _)
  have HO1xx : Hid (W3.ownsRow (b0 + 2) 43 10 (.slice A1 ts.length c1) ts.length F1) := Lib.hid (by
    rw [hW3]; exact own_setK (own_belowK HO1x.out (by rw [hn2]; exact HBv3.out)) (own_low HO1x.out (by show b0 < _; omega)) _)
  have HO2x : Hid (W3.ownsRow n1 58 4 (.slice A2 ls.length c2) ls.length F2) := Lib.hid (by
    rw [hW3]; exact own_setK (own_belowK HO2.out (by rw [hn2]; exact HBv3.out)) (own_low HO2.out (by show b0 < _; omega)) _)
  have HB3 : Hid (Below b0 w W3) := Lib.hid (by rw [hW3]; exact (HB2.out.trans (HBv3.out.mono (by omega))).setCell (p := ⟨b0, 5, none⟩) (Nat.le_refl _) _)
  have hs3 : b0 + 2 ≤ W3.heap.size := by
    have h1 := HBv3.out.size
    have h2 : W3.heap.size = v3.heap.size := by rw [hW3]; simp [World.setCell]
    omega
  clear hW3 cx3 cy3 HCv3 HRv3 HOv3 HBv3 hE3
  generalize hn3 : W3.heap.size = n3 at *
  obtain ⟨kx3, ky3⟩ := box_rules HC3.out
  have lw3 : b0 < W3.heap.size := by omega
  have lv3 : b0 < n3 := by omega
  obtain ⟨rx3, ry3⟩ := box_rules HR3.out
  go_wp2
  have h4 := box_set (i := 5) (box_set (i := 4) (box_set (i := 3) (box_set (i := 2) (box_set (i := 1) (box_set (i := 0) HR3.out (.int .i64 mn)) (.int .i64 mx)) (.int .i64 sw)) (.slice A1 ts.length c1)) (.slice A2 ls.length c2)) (.slice A3 hs.length c3)
  have hz := (box_rules h4).1
  refine bodyPost_ret (v := .agg #[.int .i64 mn, .int .i64 mx, .int .i64 sw, .slice A1 ts.length c1, .slice A2 ls.length c2, .slice A3 hs.length c3]) (by simp [results, Tryz.f18, go_sem, hz]) rfl ?_
  have bR : b0 ≤ b0 + 1 := by omega
  refine ⟨A1, c1, A2, c2, A3, c3, rfl, ?_, ?_, ?_, ?_⟩
  · rw [hb0]
    repeat (with_reducible refine own_setK ?_ (own_low HO1xx.out (by show b0 + 1 < b0 + 2; omega)) _)
    exact own_monoK HO1xx.out (by omega)
  · rw [hb0]
    repeat (with_reducible refine own_setK ?_ (own_low HO2x.out (by show b0 + 1 < n1; omega)) _)
    exact own_monoK HO2x.out (by omega)
  · rw [hb0]
    repeat (with_reducible refine own_setK ?_ (own_low HO3.out (by show b0 + 1 < n2; omega)) _)
    exact own_monoK HO3.out (by omega)
  · rw [hb0]
    repeat (with_reducible first | refine Below.setCell ?_ bR _ | exact HB3.out)
end Go.Proofs.YtgampofpabllbaaGreat
/- Stores into rows of one's own. No premise of its own. -/
namespace Go.Proofs.YtgampofpabllbaaGreat
open Go.RowKit

/-- A store into an own row. -/
theorem own_put {w : World} {base : Nat} {e : TypeId} {k n c : Nat} {a : Addr} {vs : List Value} (h : w.ownsRow base e k (.slice (some a) n c) n vs) (m j : Nat) (u : Value) :
    (w.setCell ⟨(a.add m).block, (a.add m).off + j, none⟩ u).ownsRow base e k (.slice (some a) n c) n (vs.set (m + j) u) := by
  refine ⟨by rw [List.length_set]; exact h.1, ?_⟩
  rcases h.2 with ⟨h1, _⟩ | ⟨g, cap, cur, h1, h2, h3, h4, h5, h6, h7⟩
  · cases h1
  · injection h1 with h1 h8 h9
    injection h1 with h1
    subst h1 h9
    have e0 : ((⟨g, 0, none⟩ : Addr).add m) = ⟨g, m, none⟩ := by rw [add_zero_lit, Nat.zero_add]
    rw [e0]
    refine .inr ⟨g, _, cur.setIfInBounds (m + j) u, rfl, h2, ?_, h4, h5, by simpa using h6, ?_⟩
    · have := box_set (i := m + j) h3 u
      exact this
    · rw [Array.toList_setIfInBounds, List.take_set, h7]
theorem own_froz {w : World} {base : Nat} {e : TypeId} {k n c : Nat} {a : Addr} {vs : List Value} (h : w.ownsRow base e k (.slice (some a) n c) n vs) (m j : Nat) : w.frozen? ⟨(a.add m).block, (a.add m).off + j, none⟩ = false := by
  rcases h.2 with ⟨h1, _⟩ | ⟨g, cap, cur, h1, h2, h3, _⟩
  · cases h1
  · injection h1 with h1
    injection h1 with h1
    subst h1
    rw [add_zero_lit]
    exact (box_rules h3).2 _
theorem flat_set {α : Type} {f : α → List Value} {k : Nat} (hk : ∀ x, (f x).length = k) {d : α} : ∀ (l : List α) (i j : Nat) (y : α) (u : Value), i < l.length → j < k → f y = (f (l.getD i d)).set j u → (l.flatMap f).set (i * k + j) u = (l.set i y).flatMap f
  | x :: l, 0, j, y, u, _, hj, h => by
    rw [List.flatMap_cons, List.set_cons_zero, List.flatMap_cons, Nat.zero_mul, Nat.zero_add, List.set_append_left _ _ (by rw [hk]; exact hj), h]
    rfl
  | x :: l, i + 1, j, y, u, hi, hj, h => by
    have ih := flat_set hk (d := d) l i j y u (by simpa using hi) hj h
    rw [List.flatMap_cons, List.set_cons_succ, List.flatMap_cons, List.set_append_right _ _ (by rw [hk, Nat.add_mul]; omega), hk, show (i + 1) * k + j - k = i * k + j by rw [Nat.add_mul]; omega, ih]
theorem own_blk {w : World} {base : Nat} {e : TypeId} {k n c : Nat} {a : Addr} {vs : List Value} (h : w.ownsRow base e k (.slice (some a) n c) n vs) (m : Nat) : base ≤ (a.add m).block ∧ (Value.slice (some a) n c).ownBlock = some (a.add m).block := by
  rcases h.2 with ⟨h1, _⟩ | ⟨g, cap, cur, h1, h2, h3, _⟩
  · cases h1
  · injection h1 with h1
    injection h1 with h1
    subst h1
    rw [add_zero_lit]
    exact ⟨h2, rfl⟩
end Go.Proofs.YtgampofpabllbaaGreat
/- Package assign: the walks of own, With. Conditions: lists that read. -/
namespace Go.Proofs.YtgampofpabllbaaGreat
open Go.RowKit Go.Shelf

theorem acl_tk (A : Option Addr) (n c : Nat) (vs : List Value) (w : World) (hl : vs.length = n * 10) (hn : n ≤ 1048576) (hr : Rd w A vs) (h1 : ∀ u ∈ vs, u.oneCell' = true) :
    Calls Tryz.prog 43 #[.slice A n c] w fun e w' => ∃ A' c', e = .returned (.slice A' n c') ∧ w'.ownsRow w.heap.size 43 10 (.slice A' n c') n vs ∧ Below w.heap.size w w' := by
  have q : ∀ (w : World) (a : Option Addr) (n c n' c' : Nat), (binOp .eql 24 (.slice a n c) (.slice none n' c')).run Tryz.prog w = .ok (.bool a.isNone) w := fun w a n c n' c' => Lib.run_eql_slice_nil w _ _ a n c n' c' Tryz.underlying24
  rcases A with _ | ad
  · have hx : vs = [] := by
      cases vs with
      | nil => rfl
      | cons y ys => obtain ⟨a', ha, _⟩ := hr 0 _ rfl; cases ha
    subst hx
    have hn0 : n = 0 := by simp at hl; omega
    subst hn0
    go_enter Tryz.func43, Tryz.ntmps43
    go_wp2
    go_ret
    exact ⟨none, 0, rfl, own_nilK _ _ _ _, Below.refl _ _⟩
  · have Hr := Lib.hid hr; clear hr
    have Hone := Lib.hid h1; clear h1
    have Hl := Lib.hid hl; clear hl
    go_enter Tryz.func43, Tryz.ntmps43
    go_wp2_with (at_builtin; go_loud (refine wp_appNK rfl _ _ skc_tk (by decide) rfl (own_emptyK w 43 (k := 10) (Nat.le_refl _)) rfl (by simp) (some ad) n c vs rfl Hl.out (Hr.out.alloc _) Hone.out (by omega) ?_); intro A' c' w1 hown' hB'; rw [List.nil_append, Nat.zero_add] at hown'; rw [Nat.zero_add])
    go_ret
    exact ⟨A', c', rfl, hown', ((Below.refl _ _).alloc (Nat.le_refl _) _).trans hB'⟩
theorem acl_ln (A : Option Addr) (n c : Nat) (vs : List Value) (w : World) (hl : vs.length = n * 4) (hn : n ≤ 1048576) (hr : Rd w A vs) (h1 : ∀ u ∈ vs, u.oneCell' = true) :
    Calls Tryz.prog 44 #[.slice A n c] w fun e w' => ∃ A' c', e = .returned (.slice A' n c') ∧ w'.ownsRow w.heap.size 58 4 (.slice A' n c') n vs ∧ Below w.heap.size w w' := by
  have q : ∀ (w : World) (a : Option Addr) (n c n' c' : Nat), (binOp .eql 25 (.slice a n c) (.slice none n' c')).run Tryz.prog w = .ok (.bool a.isNone) w := fun w a n c n' c' => Lib.run_eql_slice_nil w _ _ a n c n' c' Tryz.underlying25
  rcases A with _ | ad
  · have hx : vs = [] := by
      cases vs with
      | nil => rfl
      | cons y ys => obtain ⟨a', ha, _⟩ := hr 0 _ rfl; cases ha
    subst hx
    have hn0 : n = 0 := by simp at hl; omega
    subst hn0
    go_enter Tryz.func44, Tryz.ntmps44
    go_wp2
    go_ret
    exact ⟨none, 0, rfl, own_nilK _ _ _ _, Below.refl _ _⟩
  · have Hr := Lib.hid hr; clear hr
    have Hone := Lib.hid h1; clear h1
    have Hl := Lib.hid hl; clear hl
    go_enter Tryz.func44, Tryz.ntmps44
    go_wp2_with (at_builtin; go_loud (refine wp_appNK rfl _ _ skc_ln (by decide) rfl (own_emptyK w 58 (k := 4) (Nat.le_refl _)) rfl (by simp) (some ad) n c vs rfl Hl.out (Hr.out.alloc _) Hone.out (by omega) ?_); intro A' c' w1 hown' hB'; rw [List.nil_append, Nat.zero_add] at hown'; rw [Nat.zero_add])
    go_ret
    exact ⟨A', c', rfl, hown', ((Below.refl _ _).alloc (Nat.le_refl _) _).trans hB'⟩
theorem acl_th (A : Option Addr) (n c : Nat) (vs : List Value) (w : World) (hl : vs.length = n * 4) (hn : n ≤ 1048576) (hr : Rd w A vs) (h1 : ∀ u ∈ vs, u.oneCell' = true) :
    Calls Tryz.prog 45 #[.slice A n c] w fun e w' => ∃ A' c', e = .returned (.slice A' n c') ∧ w'.ownsRow w.heap.size 60 4 (.slice A' n c') n vs ∧ Below w.heap.size w w' := by
  have q : ∀ (w : World) (a : Option Addr) (n c n' c' : Nat), (binOp .eql 26 (.slice a n c) (.slice none n' c')).run Tryz.prog w = .ok (.bool a.isNone) w := fun w a n c n' c' => Lib.run_eql_slice_nil w _ _ a n c n' c' Tryz.underlying26
  rcases A with _ | ad
  · have hx : vs = [] := by
      cases vs with
      | nil => rfl
      | cons y ys => obtain ⟨a', ha, _⟩ := hr 0 _ rfl; cases ha
    subst hx
    have hn0 : n = 0 := by simp at hl; omega
    subst hn0
    go_enter Tryz.func45, Tryz.ntmps45
    go_wp2
    go_ret
    exact ⟨none, 0, rfl, own_nilK _ _ _ _, Below.refl _ _⟩
  · have Hr := Lib.hid hr; clear hr
    have Hone := Lib.hid h1; clear h1
    have Hl := Lib.hid hl; clear hl
    go_enter Tryz.func45, Tryz.ntmps45
    go_wp2_with (at_builtin; go_loud (refine wp_appNK rfl _ _ skc_th (by decide) rfl (own_emptyK w 60 (k := 4) (Nat.le_refl _)) rfl (by simp) (some ad) n c vs rfl Hl.out (Hr.out.alloc _) Hone.out (by omega) ?_); intro A' c' w1 hown' hB'; rw [List.nil_append, Nat.zero_add] at hown'; rw [Nat.zero_add])
    go_ret
    exact ⟨A', c', rfl, hown', ((Below.refl _ _).alloc (Nat.le_refl _) _).trans hB'⟩
set_option maxHeartbeats 4000000 in
set_option maxRecDepth 100000 in
theorem own36_any (mn mx sw : Int) (ts : List Tk) (ls : List Ln) (hs : List Th) (A : Option Addr) (ca : Nat) (B : Option Addr) (cb : Nat) (D : Option Addr) (cd : Nat) (w : World)
    (hlt0 : ts.length ≤ 1048576) (hll : ls.length ≤ 1048576) (hlh : hs.length ≤ 1048576)
    (ht : Rd w A (ts.flatMap tkc)) (hl : Rd w B (ls.flatMap lnc)) (hh : Rd w D (hs.flatMap thc)) :
    Calls Tryz.prog 29 #[cfv mn mx sw A ts.length ca B ls.length cb D hs.length cd] w (RetCy mn mx sw ts ls hs w) := by
  have k1 := Lib.hid (fun w hr => acl_tk A ts.length ca (ts.flatMap tkc) w (flat_len (f := tkc) (k := 10) (fun _ => rfl) ts) hlt0 hr (flat_one tkc_one ts))
  have k2 := Lib.hid (fun w hr => acl_ln B ls.length cb (ls.flatMap lnc) w (flat_len (f := lnc) (k := 4) (fun _ => rfl) ls) hll hr (flat_one lnc_one ls))
  have k3 := Lib.hid (fun w hr => acl_th D hs.length cd (hs.flatMap thc) w (flat_len (f := thc) (k := 4) (fun _ => rfl) hs) hlh hr (flat_one thc_one' hs))
  have Ht := Lib.hid ht; have Hl := Lib.hid hl; have Hh := Lib.hid hh
  clear ht hl hh
  have HRC : Hid (∀ e w', (∃ (A : Option Addr) (ca : Nat) (B : Option Addr) (cb : Nat) (D : Option Addr) (cd : Nat), e = .returned (cfv mn mx sw A ts.length ca B ls.length cb D hs.length cd) ∧
    w'.ownsRow w.heap.size 43 10 (.slice A ts.length ca) ts.length (ts.flatMap tkc) ∧ w'.ownsRow w.heap.size 58 4 (.slice B ls.length cb) ls.length (ls.flatMap lnc) ∧
    w'.ownsRow w.heap.size 60 4 (.slice D hs.length cd) hs.length (hs.flatMap thc) ∧ Below w.heap.size w w') → RetCy mn mx sw ts ls hs w e w') := Lib.hid (fun _ _ h => h)
  generalize RetCy mn mx sw ts ls hs w = RC at *
  generalize ts.flatMap tkc = F1 at *
  generalize ls.flatMap lnc = F2 at *
  generalize hs.flatMap thc = F3 at *
  unfold cfv at *
  go_enter Tryz.func29, Tryz.ntmps29
  go_upto_region 1 with fail
  refine name_world fun W hW => ?_
  have HC : Hid (W.heap[w.heap.size]? = some (.cells #[.int .i64 mn, .int .i64 mx, .int .i64 sw, .slice A ts.length ca, .slice B ls.length cb, .slice D hs.length cd] 28 (0, 0))) := Lib.hid (by rw [hW]; exact box_alloc (heap_alloc_new w _) _)
  have HZ : Hid (W.heap[w.heap.size + 1]? = some (.cells #[.int .i64 0, .int .i64 0, .int .i64 0, .slice none 0 0, .slice none 0 0, .slice none 0 0] 28 (0, 0))) := Lib.hid (by rw [hW]; exact heap_new_at _ (by simp))
  have HB : Hid (Below w.heap.size w W) := Lib.hid (by rw [hW]; exact ((Below.refl _ _).alloc (Nat.le_refl _) _).alloc (by simp) _)
  have sW : W.heap.size = w.heap.size + 2 := by rw [hW]; simp
  obtain ⟨cx, cy⟩ := box_rules HC.out
  clear hW
  have lW : w.heap.size + 2 ≤ W.heap.size := by omega
  go_wp2_with fail
  refine (k1.out _ (Ht.out.below HB.out)).mono ?_
  rintro e w1 ⟨A1, c1, rfl, ho, hb⟩
  have HC1 := Lib.hid (box_keep HC.out hb); have HZ1 := Lib.hid (box_keep HZ.out hb)
  have HB1 := Lib.hid (HB.out.trans (hb.mono HB.out.size))
  have HO1 := Lib.hid (own_monoK ho (base' := w.heap.size + 2) lW)
  have l1 := Nat.le_trans lW hb.size
  clear hb ho cx cy HC HZ HB k1 sW lW Ht
  obtain ⟨cx, cy⟩ := box_rules HC1.out
  go_upto_region 2 with fail
  refine name_world fun V hV => ?_
  have HC2 : Hid (V.heap[w.heap.size]? = some (.cells #[.int .i64 mn, .int .i64 mx, .int .i64 sw, .slice A1 ts.length c1, .slice B ls.length cb, .slice D hs.length cd] 28 (0, 0))) := Lib.hid (by rw [hV]; exact box_set (i := 3) HC1.out _)
  have HZ2 : Hid (V.heap[w.heap.size + 1]? = some (.cells #[.int .i64 0, .int .i64 0, .int .i64 0, .slice none 0 0, .slice none 0 0, .slice none 0 0] 28 (0, 0))) := Lib.hid (by rw [hV]; exact box_far HZ1.out (p := ⟨w.heap.size, 3, none⟩) (by show _ ≠ w.heap.size; omega) _)
  have HB2 : Hid (Below w.heap.size w V) := Lib.hid (by rw [hV]; exact HB1.out.setCell (p := ⟨w.heap.size, 3, none⟩) (Nat.le_refl _) _)
  have P1 : Hid (V.ownsRow (w.heap.size + 2) 43 10 (.slice A1 ts.length c1) ts.length F1) := Lib.hid (by rw [hV]; exact own_setK HO1.out (p := ⟨w.heap.size, 3, none⟩) (own_low HO1.out (by show w.heap.size < _; omega)) _)
  have l2 : w.heap.size + 2 ≤ V.heap.size := by rw [hV]; simpa [World.setCell] using l1
  clear hV cx cy HC1 HZ1 HB1 HO1 l1
  obtain ⟨cx, cy⟩ := box_rules HC2.out
  go_wp2_with fail
  refine (k2.out _ (Hl.out.below HB2.out)).mono ?_
  rintro e w2 ⟨B1, d1, rfl, ho, hb⟩
  have HC1 := Lib.hid (box_keep HC2.out hb); have HZ1 := Lib.hid (box_keep HZ2.out hb)
  have HB1 := Lib.hid (HB2.out.trans (hb.mono HB2.out.size))
  have HO1 := Lib.hid (own_belowK P1.out hb)
  have HO2 := Lib.hid (own_monoK ho (base' := w.heap.size + 2) l2)
  have l1 := Nat.le_trans l2 hb.size
  clear hb ho cx cy HC2 HZ2 HB2 k2 P1 l2 Hl
  obtain ⟨cx, cy⟩ := box_rules HC1.out
  go_upto_region 3 with fail
  refine name_world fun V hV => ?_
  have HC2 : Hid (V.heap[w.heap.size]? = some (.cells #[.int .i64 mn, .int .i64 mx, .int .i64 sw, .slice A1 ts.length c1, .slice B1 ls.length d1, .slice D hs.length cd] 28 (0, 0))) := Lib.hid (by rw [hV]; exact box_set (i := 4) HC1.out _)
  have HZ2 : Hid (V.heap[w.heap.size + 1]? = some (.cells #[.int .i64 0, .int .i64 0, .int .i64 0, .slice none 0 0, .slice none 0 0, .slice none 0 0] 28 (0, 0))) := Lib.hid (by rw [hV]; exact box_far HZ1.out (p := ⟨w.heap.size, 4, none⟩) (by show _ ≠ w.heap.size; omega) _)
  have HB2 : Hid (Below w.heap.size w V) := Lib.hid (by rw [hV]; exact HB1.out.setCell (p := ⟨w.heap.size, 4, none⟩) (Nat.le_refl _) _)
  have P1 : Hid (V.ownsRow (w.heap.size + 2) 43 10 (.slice A1 ts.length c1) ts.length F1) := Lib.hid (by rw [hV]; exact own_setK HO1.out (p := ⟨w.heap.size, 4, none⟩) (own_low HO1.out (by show w.heap.size < _; omega)) _)
  have P2 : Hid (V.ownsRow (w.heap.size + 2) 58 4 (.slice B1 ls.length d1) ls.length F2) := Lib.hid (by rw [hV]; exact own_setK HO2.out (p := ⟨w.heap.size, 4, none⟩) (own_low HO2.out (by show w.heap.size < _; omega)) _)
  have l2 : w.heap.size + 2 ≤ V.heap.size := by rw [hV]; simpa [World.setCell] using l1
  clear hV cx cy HC1 HZ1 HB1 HO1 HO2 l1
  obtain ⟨cx, cy⟩ := box_rules HC2.out
  go_wp2_with fail
  refine (k3.out _ (Hh.out.below HB2.out)).mono ?_
  rintro e w3 ⟨D1, e1, rfl, ho, hb⟩
  have HC1 := Lib.hid (box_keep HC2.out hb); have HZ1 := Lib.hid (box_keep HZ2.out hb)
  have HB1 := Lib.hid (HB2.out.trans (hb.mono HB2.out.size))
  have HO1 := Lib.hid (own_belowK P1.out hb)
  have HO2 := Lib.hid (own_belowK P2.out hb)
  have HO3 := Lib.hid (own_monoK ho (base' := w.heap.size + 2) l2)
  clear hb ho cx cy HC2 HZ2 HB2 k3 P1 P2 l2 Hh
  obtain ⟨cx, cy⟩ := box_rules HC1.out
  obtain ⟨zx, zy⟩ := box_rules HZ1.out
  go_wp2
  have hz0 := box_far HZ1.out (p := ⟨w.heap.size, 5, none⟩) (by show _ ≠ w.heap.size; omega) (.slice D1 hs.length e1)
  have h4 := box_set (i := 5) (box_set (i := 4) (box_set (i := 3) (box_set (i := 2) (box_set (i := 1) (box_set (i := 0) hz0 (.int .i64 mn)) (.int .i64 mx)) (.int .i64 sw)) (.slice A1 ts.length c1)) (.slice B1 ls.length d1)) (.slice D1 hs.length e1)
  have hz := (box_rules h4).1
  refine bodyPost_ret (v := .agg #[.int .i64 mn, .int .i64 mx, .int .i64 sw, .slice A1 ts.length c1, .slice B1 ls.length d1, .slice D1 hs.length e1]) (by simp [results, Tryz.f29, go_sem, hz]) rfl ?_
  have bR : w.heap.size ≤ w.heap.size + 1 := by omega
  have lz : w.heap.size + 1 < w.heap.size + 2 := by omega
  have lc : w.heap.size < w.heap.size + 2 := by omega
  refine HRC.out _ _ ⟨A1, c1, B1, d1, D1, e1, rfl, ?_, ?_, ?_, ?_⟩
  · refine own_monoK (base := w.heap.size + 2) ?_ (by omega)
    repeat (with_reducible first | exact HO1.out | refine own_setK ?_ (own_low HO1.out lz) _ | refine own_setK ?_ (own_low HO1.out lc) _)
  · refine own_monoK (base := w.heap.size + 2) ?_ (by omega)
    repeat (with_reducible first | exact HO2.out | refine own_setK ?_ (own_low HO2.out lz) _ | refine own_setK ?_ (own_low HO2.out lc) _)
  · refine own_monoK (base := w.heap.size + 2) ?_ (by omega)
    repeat (with_reducible first | exact HO3.out | refine own_setK ?_ (own_low HO3.out lz) _ | refine own_setK ?_ (own_low HO3.out lc) _)
  · have hb9 : Below w.heap.size w (w3.setCell ⟨w.heap.size, 5, none⟩ (.slice D1 hs.length e1)) := HB1.out.setCell (p := ⟨w.heap.size, 5, none⟩) (Nat.le_refl _) _
    repeat (with_reducible first | exact hb9 | refine Below.setCell ?_ bR _)
/-- What With hands back: its own rows, or nothing. -/
def RetWi (y mn mx sw : Int) (nt nl nh : Nat) (T : List Tk) (L : List Ln) (H : List Th) (w : World) (e : Ending) (w' : World) : Prop :=
  (y ≠ 0 → e = .returned (.tuple #[cfv 0 0 0 none 0 0 none 0 0 none 0 0, .int .i64 y])) ∧
  (y = 0 → ∃ (A : Option Addr) (ca : Nat) (B : Option Addr) (cb : Nat) (D : Option Addr) (cd : Nat), e = .returned (.tuple #[cfv mn mx sw A nt ca B nl cb D nh cd, .int .i64 0]) ∧
    w'.ownsRow w.heap.size 43 10 (.slice A nt ca) nt (T.flatMap tkc) ∧ w'.ownsRow w.heap.size 58 4 (.slice B nl cb) nl (L.flatMap lnc) ∧ w'.ownsRow w.heap.size 60 4 (.slice D nh cd) nh (H.flatMap thc)) ∧
  Below w.heap.size w w'
/-- What stands while priorities are put. -/
structure WiI (mn mx sw : Int) (nt nl nh bd base br : Nat) (A2 : Option Addr) (c2 : Nat) (B2 : Option Addr) (d2 : Nat) (D2 : Option Addr) (e2 : Nat) (w : World) (T : List Tk) (L : List Ln) (H : List Th) (wx : World) : Prop where
  boxd : wx.heap[bd]? = some (.cells #[.int .i64 mn, .int .i64 mx, .int .i64 sw, .slice A2 nt c2, .slice B2 nl d2, .slice D2 nh e2] 28 (0, 0))
  boxr : wx.heap[br]? = some (.cells #[.int .i64 0, .int .i64 0, .int .i64 0, .slice none 0 0, .slice none 0 0, .slice none 0 0] 28 (0, 0))
  o1 : wx.ownsRow base 43 10 (.slice A2 nt c2) nt (T.flatMap tkc)
  o2 : wx.ownsRow base 58 4 (.slice B2 nl d2) nl (L.flatMap lnc)
  o3 : wx.ownsRow base 60 4 (.slice D2 nh e2) nh (H.flatMap thc)
  low : Below w.heap.size w wx
  bl : w.heap.size ≤ base ∧ br < base ∧ w.heap.size ≤ br
theorem WiI.put {mn mx sw : Int} {nt nl nh bd base br : Nat} {c2 : Nat} {B2 : Option Addr} {d2 : Nat} {D2 : Option Addr} {e2 : Nat} {a : Addr} {w : World} {T : List Tk} {L : List Ln} {H : List Th} {wx : World}
    (h : WiI mn mx sw nt nl nh bd base br (some a) c2 B2 d2 D2 e2 w T L H wx) {m : Nat} (hm : m < T.length) (v : Int) :
    WiI mn mx sw nt nl nh bd base br (some a) c2 B2 d2 D2 e2 w (T.set m { T.getD m tk0 with prio := v }) L H (wx.setCell ⟨(a.add (m * 10)).block, (a.add (m * 10)).off + 1, none⟩ (.int .i64 v)) := by
  obtain ⟨b1, b2⟩ := own_blk h.o1 (m * 10)
  have b3 := own_apart_box h.o1 h.boxd (by decide)
  have b4 : bd ≠ (a.add (m * 10)).block := fun e => b3 (by rw [b2, e])
  have bl := h.bl
  refine ⟨box_far h.boxd (p := ⟨(a.add (m * 10)).block, (a.add (m * 10)).off + 1, none⟩) b4 _, box_far h.boxr (p := ⟨(a.add (m * 10)).block, (a.add (m * 10)).off + 1, none⟩) (by show br ≠ (a.add (m * 10)).block; omega) _, ?_, ?_, ?_, h.low.setCell (p := ⟨(a.add (m * 10)).block, (a.add (m * 10)).off + 1, none⟩) (by show _ ≤ (a.add (m * 10)).block; omega) _, bl⟩
  · rw [← flat_set (f := tkc) (k := 10) (fun _ => rfl) (d := tk0) T m 1 _ (.int .i64 v) hm (by decide) rfl]; exact own_put h.o1 (m * 10) 1 _
  · exact own_setK h.o2 (p := ⟨(a.add (m * 10)).block, (a.add (m * 10)).off + 1, none⟩) (own_apart h.o1 h.o2 (by decide) b2) _
  · exact own_setK h.o3 (p := ⟨(a.add (m * 10)).block, (a.add (m * 10)).off + 1, none⟩) (own_apart h.o1 h.o3 (by decide) b2) _
set_option maxHeartbeats 4000000 in
set_option maxRecDepth 100000 in
theorem with36_any (mn mx sw : Int) (ts : List Tk) (ls : List Ln) (hs : List Th) (A : Option Addr) (ca : Nat) (B : Option Addr) (cb : Nat) (D : Option Addr) (cd : Nat) (q : List Int) (Q : Option Addr) (cq : Nat) (w : World)
    (hlt0 : ts.length ≤ 1048576) (hll : ls.length ≤ 1048576) (hlh : hs.length ≤ 1048576) (hlq : q.length ≤ 1048576)
    (ht : Rd w A (ts.flatMap tkc)) (hl : Rd w B (ls.flatMap lnc)) (hh : Rd w D (hs.flatMap thc)) (hq : Rd w Q (q.map (.int .i64))) :
    Calls Tryz.prog 12 #[cfv mn mx sw A ts.length ca B ls.length cb D hs.length cd, .slice Q q.length cq] w (RetWi (if q.length = ts.length then 0 else 2) mn mx sw ts.length ls.length hs.length (putP ts q) ls hs w) := by
  have c1 := Lib.hid (fun w ht hl hh => own36_any mn mx sw ts ls hs A ca B cb D cd w hlt0 hll hlh ht hl hh)
  have Ht := Lib.hid ht; have Hl := Lib.hid hl; have Hh := Lib.hid hh; have Hq := Lib.hid hq
  clear ht hl hh hq
  unfold RetCy at c1
  have hz : Hid (∀ (a : Array Value), a.size = 6 → a.size = 6) := Lib.hid fun _ h => h
  clear hz
  by_cases hn : q.length = ts.length
  · rw [if_pos hn]
    have HFin : Hid (∀ e w', (∃ (A : Option Addr) (ca : Nat) (B : Option Addr) (cb : Nat) (D : Option Addr) (cd : Nat), e = .returned (.tuple #[cfv mn mx sw A ts.length ca B ls.length cb D hs.length cd, .int .i64 0]) ∧
      w'.ownsRow w.heap.size 43 10 (.slice A ts.length ca) ts.length ((putP ts q).flatMap tkc) ∧ w'.ownsRow w.heap.size 58 4 (.slice B ls.length cb) ls.length (ls.flatMap lnc) ∧ w'.ownsRow w.heap.size 60 4 (.slice D hs.length cd) hs.length (hs.flatMap thc) ∧ Below w.heap.size w w') → RetWi 0 mn mx sw ts.length ls.length hs.length (putP ts q) ls hs w e w') :=
      Lib.hid (fun e w' ⟨A, ca, B, cb, D, cd, h1, h2, h3, h4, h5⟩ => ⟨fun h => absurd rfl h, fun _ => ⟨A, ca, B, cb, D, cd, h1, h2, h3, h4⟩, h5⟩)
    generalize RetWi 0 mn mx sw ts.length ls.length hs.length (putP ts q) ls hs w = RW at *
    have hn2 : ((q.length : Int) != (ts.length : Int)) = false := by simp [hn]
    have HN := Lib.hid hn
    clear hn
    unfold cfv at *
    go_enter Tryz.func12, Tryz.ntmps12
    go_upto_region 1 with fail
    refine name_world fun W hW => ?_
    have HC : Hid (W.heap[w.heap.size]? = some (.cells #[.int .i64 mn, .int .i64 mx, .int .i64 sw, .slice A ts.length ca, .slice B ls.length cb, .slice D hs.length cd] 28 (0, 0))) := Lib.hid (by rw [hW]; exact box_alloc (heap_alloc_new w _) _)
    have HZ : Hid (W.heap[w.heap.size + 1]? = some (.cells #[.int .i64 0, .int .i64 0, .int .i64 0, .slice none 0 0, .slice none 0 0, .slice none 0 0] 28 (0, 0))) := Lib.hid (by rw [hW]; exact heap_new_at _ (by simp))
    have HB : Hid (Below w.heap.size w W) := Lib.hid (by rw [hW]; exact ((Below.refl _ _).alloc (Nat.le_refl _) _).alloc (by simp) _)
    have sW : W.heap.size = w.heap.size + 2 := by rw [hW]; simp
    obtain ⟨cx, cy⟩ := box_rules HC.out
    clear hW
    go_wp2_with fail
    refine (c1.out _ (Ht.out.below HB.out) (Hl.out.below HB.out) (Hh.out.below HB.out)).mono ?_
    rintro e w1 ⟨A1, a1, B1, b1, D1, d1, rfl, ho1, ho2, ho3, hb⟩
    go_upto_region 4 with fail
    refine name_world fun V hV => ?_
    have HI : Hid (WiI mn mx sw ts.length ls.length hs.length w1.heap.size W.heap.size (w.heap.size + 1) A1 a1 B1 b1 D1 d1 w ts ls hs V) := Lib.hid (by
      rw [hV]
      exact ⟨heap_alloc_new _ _, box_alloc (box_keep HZ.out hb) _, own_allocK ho1 _, own_allocK ho2 _, own_allocK ho3 _, (HB.out.trans (hb.mono HB.out.size)).alloc (by have := HB.out.size; have := hb.size; omega) _, by omega, by omega, by omega⟩)
    clear hV hb ho1 ho2 ho3 cx cy HC HZ HB c1 Ht Hl Hh
    have lq : w1.heap.size < V.heap.size := box_lt HI.out.boxd
    generalize w1.heap.size = bd at *
    generalize W.heap.size = base at *
    go_wp2
    go_loopw [20] (fun i wr => ∃ k : Nat, k ≤ q.length ∧ i = .int .i64 k ∧ Hid (WiI mn mx sw ts.length ls.length hs.length bd base (w.heap.size + 1) A1 a1 B1 b1 D1 d1 w (pK ts q k) ls hs wr)) (fun i _ => q.length - (intOf i).toNat)
    case atStart => exact ⟨0, by omega, rfl, HI⟩
    case round =>
      obtain ⟨k, hk, rfl, HIr⟩ := hrel
      by_cases hlt : k < q.length
      · obtain ⟨aq, rfl, gq⟩ := (Hq.out.below HIr.out.low).int hlt
        have hkt : k < (pK ts q k).length := by rw [pK_len, ← HN.out]; exact hlt
        have hkt2 : k < ts.length := by rw [← HN.out]; exact hlt
        obtain ⟨a, x, rfl, hx, ⟨-, z1, -, -⟩, -⟩ := (own_rdK HIr.out.o1).tkAt hkt
        have fz := own_froz HIr.out.o1 (k * 10) 1
        obtain ⟨dx, dy⟩ := box_rules HIr.out.boxd
        have Hf := Lib.hid (HIr.out.put hkt (q.getD k 0))
        generalize hv : q.getD k 0 = v at *
        have HV := Lib.hid hv
        clear hv hx
        go_wp2
        refine ⟨⟨k + 1, by omega, by go_num, Lib.hid ?_⟩, ?_⟩
        · show WiI _ _ _ _ _ _ _ _ _ _ _ _ _ _ _ _ ((pK ts q k).set k { (pK ts q k).getD k tk0 with prio := q.getD k 0 }) _ _ _
          rw [HV.out]
          exact Hf.out
        · simp [intOf]; omega
      · obtain rfl : k = q.length := by omega
        obtain ⟨dx, dy⟩ := box_rules HIr.out.boxd
        obtain ⟨zx, zy⟩ := box_rules HIr.out.boxr
        go_wp2
        have h4 := box_set (i := 5) (box_set (i := 4) (box_set (i := 3) (box_set (i := 2) (box_set (i := 1) (box_set (i := 0) HIr.out.boxr (.int .i64 mn)) (.int .i64 mx)) (.int .i64 sw)) (.slice A1 ts.length a1)) (.slice B1 ls.length b1)) (.slice D1 hs.length d1)
        have hz := (box_rules h4).1
        refine bodyPost_ret (v := .tuple #[.agg #[.int .i64 mn, .int .i64 mx, .int .i64 sw, .slice A1 ts.length a1, .slice B1 ls.length b1, .slice D1 hs.length d1], .int .i64 0]) (by simp [results, Tryz.f12, go_sem, hz]) rfl ?_
        have lz := HIr.out.bl.2.1
        have lw := HIr.out.bl.2.2
        have eP : pK ts q q.length = putP ts q := by unfold putP; rw [HN.out]
        refine HFin.out _ _ ⟨A1, a1, B1, b1, D1, d1, rfl, ?_, ?_, ?_, ?_⟩
        · rw [← eP]
          refine own_monoK (base := base) ?_ (by omega)
          repeat (with_reducible first | exact HIr.out.o1 | refine own_setK ?_ (own_low HIr.out.o1 lz) _)
        · refine own_monoK (base := base) ?_ (by omega)
          repeat (with_reducible first | exact HIr.out.o2 | refine own_setK ?_ (own_low HIr.out.o2 lz) _)
        · refine own_monoK (base := base) ?_ (by omega)
          repeat (with_reducible first | exact HIr.out.o3 | refine own_setK ?_ (own_low HIr.out.o3 lz) _)
        · repeat (with_reducible first | exact HIr.out.low | refine Below.setCell ?_ lw _)
  · rw [if_neg hn]
    have hn2 : ((q.length : Int) != (ts.length : Int)) = true := by simp; omega
    unfold cfv at *
    go_enter Tryz.func12, Tryz.ntmps12
    go_wp2
    refine bodyPost_ret (v := .tuple #[.agg #[.int .i64 0, .int .i64 0, .int .i64 0, .slice none 0 0, .slice none 0 0, .slice none 0 0], .int .i64 2]) (by simp [results, Tryz.f12, go_sem]) rfl ?_
    exact ⟨fun _ => rfl, fun h => (by cases h), ((Below.refl _ _).alloc (Nat.le_refl _) _).alloc (by simp) _⟩
end Go.Proofs.YtgampofpabllbaaGreat
/- Package assign: a deal's memory; the walk of begin. Conditions: lists that read. -/
namespace Go.Proofs.YtgampofpabllbaaGreat
open Go.RowKit Go.Shelf

theorem new_cell' {w : World} {cs : Array Value} {t : TypeId} {j n : Nat} {u : Value} (hn : w.heap.size = n) (h : cs.toList[j]? = some u) : (w.alloc (.cells cs t)).cell? ⟨n, j, none⟩ = some u := by subst hn; exact new_cell h
theorem takeP {α : Type} {l : List α} {k : Nat} {d : α} (h : k < l.length) : l.take (k + 1) = l.take k ++ [l.getD k d] := by
  have e : l.getD k d = l[k] := by simp [List.getD, h]
  rw [e]; exact (List.take_append_getElem h).symm
theorem skI : SlK Tryz.prog 29 3 1 8 := SlK.mk' (z := .int .i64 0) Tryz.underlying29 (by kernel_rfl) rfl (by decide)
/-- A row that is sorted in its place. -/
theorem own_sort {w : World} {base g n c q : Nat} {zs ys : List Int} {os : Array Obj} (h : w.ownsRow base 3 1 (.slice (some ⟨g, 0, none⟩) n c) n (zs.map (.int .i64))) (hl : ys.length = zs.length) :
    (Go.Sort.grow (Go.Sort.putRow (Value.int .i64) (Go.Sort.ahead w q) g 0 ys.toArray) os).ownsRow base 3 1 (.slice (some ⟨g, 0, none⟩) n c) n (ys.map (.int .i64)) ∧
    (∀ b, b ≠ g → b < w.heap.size → (Go.Sort.grow (Go.Sort.putRow (Value.int .i64) (Go.Sort.ahead w q) g 0 ys.toArray) os).heap[b]? = w.heap[b]?) ∧
    ∀ (B : Nat) (W : World), Below B W w → B ≤ g → Below B W (Go.Sort.grow (Go.Sort.putRow (Value.int .i64) (Go.Sort.ahead w q) g 0 ys.toArray) os) := by
  have hn : zs.length = n := by simpa using h.1
  have hb : ∀ b, b ≠ g → b < w.heap.size → (Go.Sort.grow (Go.Sort.putRow (Value.int .i64) (Go.Sort.ahead w q) g 0 ys.toArray) os).heap[b]? = w.heap[b]? := fun b hne hlt => by
    show (((w.heap.modify g (Go.Sort.onCells _)) ++ os)[b]?) = _
    rw [Array.getElem?_append_left (by simpa using hlt), Array.getElem?_modify]
    rw [if_neg (fun e => hne e.symm)]
  refine ⟨⟨by rw [List.length_map, hl, hn]; omega, ?_⟩, hb, fun B W hB hg => ?_⟩
  · rcases h.2 with ⟨h1, _⟩ | ⟨g', cap, cur, h1, h2, h3, h4, h5, h6, h7⟩
    · cases h1
    · injection h1 with h1 h8 h9
      injection h1 with h1
      injection h1 with h1
      subst h1 h9
      have hlt : g < w.heap.size := box_lt h3
      refine .inr ⟨g, c, Go.Sort.putCells (Value.int .i64) 0 ys.toArray cur, rfl, h2, ?_, h4, h5, by unfold Go.Sort.putCells; simpa using h6, ?_⟩
      · show (((w.heap.modify g (Go.Sort.onCells _)) ++ os)[g]?) = _
        rw [Array.getElem?_append_left (by simpa using hlt), Array.getElem?_modify, if_pos rfl, h3]
        rfl
      · have hc : cur.size = c := by simpa using h6
        unfold Go.Sort.putCells
        refine List.ext_getElem (by simp; omega) fun i i1 i2 => ?_
        have hi : i < ys.length := by simpa using i2
        simp [hi]
  · refine ⟨hB.os, hB.tape, hB.output, ?_, fun k hk => ?_⟩
    · show W.heap.size ≤ ((w.heap.modify g (Go.Sort.onCells _)) ++ os).size
      have := hB.size
      simp; omega
    · by_cases hlt : k < w.heap.size
      · rw [hb k (by omega) hlt]; exact hB.block k hk
      · have h2 := hB.block k hk
        rcases h.2 with ⟨h1, _⟩ | ⟨g', cap, cur, h1, _, h3, _⟩
        · cases h1
        · injection h1 with h1
          injection h1 with h1
          injection h1 with h1
          subst h1
          have := box_lt h3
          omega
theorem own_holds {w : World} {base g n c : Nat} {zs : List Int} (h : w.ownsRow base 3 1 (.slice (some ⟨g, 0, none⟩) n c) n (zs.map (.int .i64))) : Go.Sort.Holds (Value.int .i64) w g 0 zs.toArray := fun j hj => by
  have hj' : j < zs.length := by simpa using hj
  obtain ⟨a, ha, hc⟩ := (own_rdK h).int hj'
  cases ha
  rw [add_zero_lit] at hc
  refine ⟨?_, ?_⟩
  · rw [hc]
    simp [List.getD, hj']
  · rcases h.2 with ⟨h1, _⟩ | ⟨g', cap, cur, h1, _, h3, _⟩
    · cases h1
    · injection h1 with h1
      injection h1 with h1
      injection h1 with h1
      subst h1
      exact (box_rules h3).2 _
/-- What a deal's memory holds. -/
structure DeI (mn mx sw : Int) (nt nl nh p base : Nat) (A2 : Option Addr) (c2 : Nat) (B2 : Option Addr) (d2 : Nat) (D2 : Option Addr) (e2 : Nat) (P : Option Addr) (cp : Nat) (G : Option Addr) (cg : Nat) (w : World) (T : List Tk) (L : List Ln) (H : List Th) (pl g : List Int) (m : Int) (wx : World) : Prop where
  boxp : wx.heap[p]? = some (.cells #[.int .i64 mn, .int .i64 mx, .int .i64 sw, .slice A2 nt c2, .slice B2 nl d2, .slice D2 nh e2, .slice P pl.length cp, .slice G g.length cg, .int .i64 m] 50 (0, 0))
  o1 : wx.ownsRow base 43 10 (.slice A2 nt c2) nt (T.flatMap tkc)
  o2 : wx.ownsRow base 58 4 (.slice B2 nl d2) nl (L.flatMap lnc)
  o3 : wx.ownsRow base 60 4 (.slice D2 nh e2) nh (H.flatMap thc)
  op : wx.ownsRow (p + 1) 3 1 (.slice P pl.length cp) pl.length (pl.map (.int .i64))
  og : wx.ownsRow (p + 1) 3 1 (.slice G g.length cg) g.length (g.map (.int .i64))
  ne : ∀ b, (Value.slice P pl.length cp).ownBlock = some b → (Value.slice G g.length cg).ownBlock ≠ some b
  low : Below w.heap.size w wx
  bl : w.heap.size ≤ base ∧ base ≤ p
section
variable {mn mx sw : Int} {nt nl nh p base : Nat} {A2 : Option Addr} {c2 : Nat} {B2 : Option Addr} {d2 : Nat} {D2 : Option Addr} {e2 : Nat} {P : Option Addr} {cp : Nat} {G : Option Addr} {cg : Nat} {w : World} {T : List Tk} {L : List Ln} {H : List Th} {pl g : List Int} {m : Int} {V w3 : World}
theorem DeI.below (h : DeI mn mx sw nt nl nh p base A2 c2 B2 d2 D2 e2 P cp G cg w T L H pl g m V) (hb : Below V.heap.size V w3) : DeI mn mx sw nt nl nh p base A2 c2 B2 d2 D2 e2 P cp G cg w T L H pl g m w3 :=
  ⟨box_keep h.boxp hb, own_belowK h.o1 hb, own_belowK h.o2 hb, own_belowK h.o3 hb, own_belowK h.op hb, own_belowK h.og hb, h.ne, h.low.trans (hb.mono h.low.size), h.bl⟩
theorem DeI.appP (h : DeI mn mx sw nt nl nh p base A2 c2 B2 d2 D2 e2 P cp G cg w T L H pl g m V) {o : Obj} {P3 : Option Addr} {c3 : Nat} {v : Int}
    (ho : w3.ownsRow (p + 1) 3 1 (.slice P3 (pl.length + 1) c3) (pl.length + 1) (pl.map (.int .i64) ++ [.int .i64 v])) (hg : (V.alloc o).grownBy w3 (Value.slice P pl.length cp).ownBlock)
    (hat : (Value.slice P3 (pl.length + 1) c3).ownBlock = (Value.slice P pl.length cp).ownBlock ∨ ∃ s, (Value.slice P3 (pl.length + 1) c3).ownBlock = some s ∧ V.heap.size ≤ s) :
    DeI mn mx sw nt nl nh p base A2 c2 B2 d2 D2 e2 P3 c3 G cg w T L H (pl ++ [v]) g m (w3.setCell ⟨p, 6, none⟩ (.slice P3 (pl.length + 1) c3)) := by
  have S := grown_step h.op hg
  have hp : p < p + 1 := Nat.lt_succ_self p
  have hbx := S.low h.boxp hp
  have r1 := S.row h.o1 (by decide); have r2 := S.row h.o2 (by decide); have r3 := S.row h.o3 (by decide)
  have rg : w3.ownsRow (p + 1) 3 1 (.slice G g.length cg) g.length (g.map (.int .i64)) := own_keptK h.og fun b hb => by
    obtain ⟨_, hlt, cur, hc⟩ := own_blockK h.og hb
    rw [hc]
    exact S.box hc (fun e => h.ne b e hb)
  have el : (pl ++ [v]).length = pl.length + 1 := by simp
  have ne1 : ∀ {e : TypeId} {k n : Nat} {v' : Value} {vs : List Value} {b' : Nat}, w3.ownsRow b' e k v' n vs → e ≠ 50 → v'.ownBlock ≠ some p := fun hr he => own_apart_box hr hbx he
  have hlow := h.bl
  have hV := S.below h.low (show w.heap.size ≤ p + 1 by omega) h.low.size
  refine ⟨?_, own_setK r1 (p := ⟨p, 6, none⟩) (ne1 r1 (by decide)) _, own_setK r2 (p := ⟨p, 6, none⟩) (ne1 r2 (by decide)) _, own_setK r3 (p := ⟨p, 6, none⟩) (ne1 r3 (by decide)) _, ?_, own_setK rg (p := ⟨p, 6, none⟩) (ne1 rg (by decide)) _, ?_, hV.setCell (p := ⟨p, 6, none⟩) (by show _ ≤ p; omega) _, hlow⟩
  · rw [el]
    exact box_set (i := 6) hbx _
  · rw [el, List.map_append]
    exact own_setK ho (p := ⟨p, 6, none⟩) (ne1 ho (by decide)) _
  · rw [el]
    intro b hb hb2
    rcases hat with h1 | ⟨s, h1, h2⟩
    · exact h.ne b (by rw [← h1]; exact hb) hb2
    · rw [h1] at hb
      injection hb with hb
      have := (own_blockK h.og hb2).2.1
      omega
theorem DeI.appG (h : DeI mn mx sw nt nl nh p base A2 c2 B2 d2 D2 e2 P cp G cg w T L H pl g m V) {o : Obj} {G3 : Option Addr} {c3 : Nat} {v : Int}
    (ho : w3.ownsRow (p + 1) 3 1 (.slice G3 (g.length + 1) c3) (g.length + 1) (g.map (.int .i64) ++ [.int .i64 v])) (hg : (V.alloc o).grownBy w3 (Value.slice G g.length cg).ownBlock)
    (hat : (Value.slice G3 (g.length + 1) c3).ownBlock = (Value.slice G g.length cg).ownBlock ∨ ∃ s, (Value.slice G3 (g.length + 1) c3).ownBlock = some s ∧ V.heap.size ≤ s) :
    DeI mn mx sw nt nl nh p base A2 c2 B2 d2 D2 e2 P cp G3 c3 w T L H pl (g ++ [v]) m (w3.setCell ⟨p, 7, none⟩ (.slice G3 (g.length + 1) c3)) := by
  have S := grown_step h.og hg
  have hp : p < p + 1 := Nat.lt_succ_self p
  have hbx := S.low h.boxp hp
  have r1 := S.row h.o1 (by decide); have r2 := S.row h.o2 (by decide); have r3 := S.row h.o3 (by decide)
  have rp : w3.ownsRow (p + 1) 3 1 (.slice P pl.length cp) pl.length (pl.map (.int .i64)) := own_keptK h.op fun b hb => by
    obtain ⟨_, hlt, cur, hc⟩ := own_blockK h.op hb
    rw [hc]
    exact S.box hc (h.ne b hb)
  have el : (g ++ [v]).length = g.length + 1 := by simp
  have ne1 : ∀ {e : TypeId} {k n : Nat} {v' : Value} {vs : List Value} {b' : Nat}, w3.ownsRow b' e k v' n vs → e ≠ 50 → v'.ownBlock ≠ some p := fun hr he => own_apart_box hr hbx he
  have hlow := h.bl
  have hV := S.below h.low (show w.heap.size ≤ p + 1 by omega) h.low.size
  refine ⟨?_, own_setK r1 (p := ⟨p, 7, none⟩) (ne1 r1 (by decide)) _, own_setK r2 (p := ⟨p, 7, none⟩) (ne1 r2 (by decide)) _, own_setK r3 (p := ⟨p, 7, none⟩) (ne1 r3 (by decide)) _, own_setK rp (p := ⟨p, 7, none⟩) (ne1 rp (by decide)) _, ?_, ?_, hV.setCell (p := ⟨p, 7, none⟩) (by show _ ≤ p; omega) _, hlow⟩
  · rw [el]
    exact box_set (i := 7) hbx _
  · rw [el, List.map_append]
    exact own_setK ho (p := ⟨p, 7, none⟩) (ne1 ho (by decide)) _
  · rw [el]
    intro b hb hb2
    rcases hat with h1 | ⟨s, h1, h2⟩
    · exact h.ne b hb (by rw [← h1]; exact hb2)
    · rw [h1] at hb2
      injection hb2 with hb2
      have := (own_blockK h.op hb).2.1
      omega
theorem DeI.sorted {gg q : Nat} {ys : List Int} {os : Array Obj} (h : DeI mn mx sw nt nl nh p base A2 c2 B2 d2 D2 e2 (some ⟨gg, 0, none⟩) cp G cg w T L H pl g m V) (hl : ys.length = pl.length) :
    DeI mn mx sw nt nl nh p base A2 c2 B2 d2 D2 e2 (some ⟨gg, 0, none⟩) cp G cg w T L H ys g m (Go.Sort.grow (Go.Sort.putRow (Value.int .i64) (Go.Sort.ahead V q) gg 0 ys.toArray) os) := by
  obtain ⟨s1, s2, s3⟩ := own_sort (q := q) (os := os) h.op hl
  have hgb := own_blockK h.op (g := gg) rfl
  have keep : ∀ {base' : Nat} {e' : TypeId} {k' : Nat} {v' : Value} {n' : Nat} {vs' : List Value}, V.ownsRow base' e' k' v' n' vs' → v'.ownBlock ≠ some gg → (Go.Sort.grow (Go.Sort.putRow (Value.int .i64) (Go.Sort.ahead V q) gg 0 ys.toArray) os).ownsRow base' e' k' v' n' vs' := fun hr hne => own_keptK hr fun b hb => by
    obtain ⟨_, hlt, _⟩ := own_blockK hr hb
    exact s2 b (fun e => hne (by rw [hb, e])) hlt
  have ap : ∀ {base' : Nat} {e' : TypeId} {k' : Nat} {v' : Value} {n' : Nat} {vs' : List Value}, V.ownsRow base' e' k' v' n' vs' → 3 ≠ e' → v'.ownBlock ≠ some gg := fun hr he => own_apart h.op hr he rfl
  have hlow := h.bl
  refine ⟨?_, keep h.o1 (ap h.o1 (by decide)), keep h.o2 (ap h.o2 (by decide)), keep h.o3 (ap h.o3 (by decide)), by rw [hl]; exact s1, keep h.og (h.ne gg rfl), by rw [hl]; exact h.ne, s3 _ _ h.low (by omega), hlow⟩
  rw [hl, s2 p (by omega) (box_lt h.boxp)]
  exact h.boxp
end
set_option maxHeartbeats 4000000 in
set_option maxRecDepth 100000 in
theorem begin_any (mn mx sw : Int) (ts : List Tk) (ls : List Ln) (hs : List Th) (A : Option Addr) (ca : Nat) (B : Option Addr) (cb : Nat) (D : Option Addr) (cd : Nat) (w : World)
    (h1t : 1 ≤ ts.length) (hlt0 : ts.length ≤ 1048576) (hll : ls.length ≤ 1048576) (hlh : hs.length ≤ 1048576)
    (ht : Rd w A (ts.flatMap tkc)) (hl : Rd w B (ls.flatMap lnc)) (hh : Rd w D (hs.flatMap thc)) :
    Calls Tryz.prog 20 #[cfv mn mx sw A ts.length ca B ls.length cb D hs.length cd] w fun e w' => ∃ (p base : Nat) (A2 : Option Addr) (c2 : Nat) (B2 : Option Addr) (d2 : Nat) (D2 : Option Addr) (e2 : Nat) (P : Option Addr) (cp : Nat) (G : Option Addr) (cg : Nat),
      e = .returned (.pointer (some ⟨p, 0, none⟩)) ∧ DeI mn mx sw ts.length ls.length hs.length p base A2 c2 B2 d2 D2 e2 P cp G cg w ts ls hs (placesL ts) (List.replicate ts.length (-1)) 0 w' := by
  have c1 := Lib.hid (fun w ht hl hh => own36_any mn mx sw ts ls hs A ca B cb D cd w hlt0 hll hlh ht hl hh)
  have Ht := Lib.hid ht; have Hl := Lib.hid hl; have Hh := Lib.hid hh
  clear ht hl hh
  unfold RetCy at c1
  unfold cfv at *
  go_enter Tryz.func20, Tryz.ntmps20
  go_upto_region 1 with fail
  refine name_world fun W hW => ?_
  have HC : Hid (W.heap[w.heap.size]? = some (.cells #[.int .i64 mn, .int .i64 mx, .int .i64 sw, .slice A ts.length ca, .slice B ls.length cb, .slice D hs.length cd] 28 (0, 0))) := Lib.hid (by rw [hW]; exact heap_alloc_new w _)
  have HB : Hid (Below w.heap.size w W) := Lib.hid (by rw [hW]; exact (Below.refl _ _).alloc (Nat.le_refl _) _)
  obtain ⟨cx, cy⟩ := box_rules HC.out
  have lW := box_lt HC.out
  clear hW
  go_wp2_with fail
  refine (c1.out _ (Ht.out.below HB.out) (Hl.out.below HB.out) (Hh.out.below HB.out)).mono ?_
  rintro e w1 ⟨A1, a1, B1, b1, D1, d1, rfl, ho1, ho2, ho3, hb⟩
  go_upto_region 2 with fail
  refine name_world fun V hV => ?_
  have HCV : Hid (V.heap[w.heap.size]? = some (.cells #[.int .i64 mn, .int .i64 mx, .int .i64 sw, .slice A ts.length ca, .slice B ls.length cb, .slice D hs.length cd] 28 (0, 0))) := Lib.hid (by rw [hV]; exact box_alloc (box_keep HC.out hb) _)
  have HI : Hid (DeI mn mx sw ts.length ls.length hs.length w1.heap.size W.heap.size A1 a1 B1 b1 D1 d1 none 0 none 0 w ts ls hs [] [] 0 V) := Lib.hid (by
    rw [hV]
    exact ⟨heap_alloc_new _ _, own_allocK ho1 _, own_allocK ho2 _, own_allocK ho3 _, own_nilK _ _ _ _, own_nilK _ _ _ _, fun b hb => (by cases hb), (HB.out.trans (hb.mono HB.out.size)).alloc (by have := HB.out.size; have := hb.size; omega) _, HB.out.size, hb.size⟩)
  have lwp : w.heap.size < w1.heap.size := Nat.lt_of_lt_of_le lW hb.size
  clear hV hb ho1 ho2 ho3 cx cy HC HB c1 Hl Hh lW
  generalize w1.heap.size = p at *
  generalize W.heap.size = base at *
  obtain ⟨cx, cy⟩ := box_rules HCV.out
  have lc := box_lt HCV.out
  go_wp2
  go_loopw [13] (fun i wr => ∃ (k : Nat) (P : Option Addr) (cp : Nat) (G : Option Addr) (cg : Nat) (pl g : List Int), k ≤ ts.length ∧ i = .int .i64 k ∧ Hid (pl = (ts.map (·.prio)).take k ∧ g = List.replicate k (-1)) ∧ pl.length ≤ 1048576 ∧ g.length ≤ 1048576 ∧ Hid (DeI mn mx sw ts.length ls.length hs.length p base A1 a1 B1 b1 D1 d1 P cp G cg w ts ls hs pl g 0 wr)) (fun i _ => ts.length - (intOf i).toNat)
  case atStart => exact ⟨0, none, 0, none, 0, [], [], by omega, rfl, Lib.hid ⟨rfl, rfl⟩, by simp, by simp, HI⟩
  case round =>
    obtain ⟨k, P, cp, G, cg, pl, g, hk, rfl, HE, hpl, hgl, HIr⟩ := hrel
    clear HI cx cy lc HCV
    by_cases hlt : k < ts.length
    · obtain ⟨a, x, rfl, hx, ⟨z0, z1, z2, z3⟩, z4, z5, z6, z7, z8, z9⟩ := (Ht.out.below HIr.out.low).tkAt hlt
      have HE2 := Lib.hid (show pl ++ [x.prio] = (ts.map (·.prio)).take (k + 1) ∧ g ++ [-1] = List.replicate (k + 1) (-1) by
        obtain ⟨e1, e2⟩ := HE.out
        refine ⟨?_, by rw [e2, List.replicate_succ']⟩
        rw [e1, takeP (d := 0) (by simpa using hlt)]
        congr 1
        rw [← hx]
        simp [List.getD, hlt])
      have HLp := Lib.hid (show (pl ++ [x.prio]).length ≤ 1048576 ∧ (g ++ [-1]).length ≤ 1048576 by rw [HE2.out.1, HE2.out.2]; simp; omega)
      clear hx HE
      obtain ⟨x0, x1, x2, x3, x4, x5, x6, x7, x8, x9⟩ := x
      dsimp only at *
      go_upto_region 5 with fail
      refine name_world fun U hU => ?_
      have HX : Hid (U.heap[wr.heap.size]? = some (.cells #[.int .u8 x0, .int .i64 x1, .int .i64 x2, .int .i64 x3, .int .i64 x4, .int .i64 x5, .int .i64 x6, .int .i64 x7, .int .i64 x8, .int .i64 x9] 43 (0, 0))) := Lib.hid (by rw [hU]; exact heap_alloc_new _ _)
      have HIU := Lib.hid (HIr.out.below (show Below wr.heap.size wr U by rw [hU]; exact (Below.refl _ _).alloc (Nat.le_refl _) _))
      clear hU z0 z1 z2 z3 z4 z5 z6 z7 z8 z9 HIr
      obtain ⟨px, py⟩ := box_rules HIU.out.boxp
      obtain ⟨xx, xy⟩ := box_rules HX.out
      have lx := box_lt HX.out
      have lp := box_lt HIU.out.boxp
      generalize wr.heap.size = bx at *
      go_region_law ((refine step_appK rfl _ _ skI (by decide) rfl (own_drewK (own_allocK HIU.out.op _)) rfl (by omega) (by simp; omega) U.heap.size [.int .i64 x1] rfl rfl (fun j u hu => new_cell hu) rfl ?_; intro P3 c3 w3 ho3 hg3 hat3; have G3 := Lib.hid (grown_step HIU.out.op (grown_undrew hg3)); have HP3 := Lib.hid (G3.out.low HIU.out.boxp (Nat.lt_succ_self _)); obtain ⟨qx, qy⟩ := box_rules HP3.out; have lq := box_lt HP3.out; have HJ := Lib.hid (DeI.appP HIU.out ho3 (grown_undrew hg3) (by rcases hat3 with h | h; exact .inl h; exact .inr ⟨_, h, by simp⟩)); clear ho3 hg3 hat3))
      all_goals
        have lw3 : p < w3.heap.size := lq
        have HB3 := Lib.hid HJ.out.low.size
        have hgl2 : g.length ≤ 1048576 := hgl
        go_wp2_with (at_builtin; go_loud (refine wp_appK rfl _ _ skI (by decide) rfl (own_allocK HJ.out.og _) rfl (by omega) (by simp; omega) _ [.int .i64 (-1)] rfl rfl (fun j u hu => new_cell' (by simp) hu) rfl ?_); intro G4 c4 w4 ho4 hg4 hat4; have G4' := Lib.hid (grown_step HJ.out.og hg4); have HP4 := Lib.hid (G4'.out.low HJ.out.boxp (Nat.lt_succ_self _)); obtain ⟨rx, ry⟩ := box_rules HP4.out; have lr := box_lt HP4.out; have HK := Lib.hid (DeI.appG HJ.out ho4 hg4 (by rcases hat4 with h | h; exact .inl h; exact .inr ⟨_, h, by simp⟩)); clear ho4 hg4 hat4)
        refine ⟨⟨k + 1, _, _, _, _, _, _, by omega, by go_num, HE2, HLp.out.1, HLp.out.2, HK⟩, ?_⟩
        simp [intOf]; omega
    · obtain rfl : k = ts.length := by omega
      have HEnd := Lib.hid (show pl = ts.map (·.prio) ∧ g = List.replicate ts.length (-1) by
        obtain ⟨e1, e2⟩ := HE.out
        exact ⟨by rw [e1, List.take_of_length_le (by simp)], e2⟩)
      have hpn : pl.length ≠ 0 := by rw [HEnd.out.1, List.length_map]; omega
      obtain ⟨gg, rfl⟩ : ∃ gg, P = some ⟨gg, 0, none⟩ := by
        rcases HIr.out.op.2 with ⟨_, h⟩ | ⟨g', cap, cur, h1, _⟩
        · exact absurd h hpn
        · injection h1 with h1
          exact ⟨g', h1⟩
      clear HE
      obtain ⟨px, py⟩ := box_rules HIr.out.boxp
      have hH := Lib.hid (own_holds HIr.out.op)
      have hgb := (own_blockK HIr.out.op (g := gg) rfl).2.1
      have f9 := Lib.hid (Tryz.slices_Sort_int gg 0 cp pl wr hH.out hgb (by omega))
      clear hH
      have HF := Lib.hid (fun q os => DeI.sorted (q := q) (os := os) (ys := pl.mergeSort fun x y => decide (x ≤ y)) HIr.out (List.length_mergeSort _))
      have HPl : Hid ((pl.mergeSort fun x y => decide (x ≤ y)) = placesL ts) := Lib.hid (by rw [HEnd.out.1]; rfl)
      generalize (pl.mergeSort fun x y => decide (x ≤ y)) = ys at *
      go_wp2_with (refine f9.out.mono ?_; rintro e w2 ⟨rfl, q, os, rfl⟩)
      go_ret
      refine ⟨p, base, A1, a1, B1, b1, D1, d1, some ⟨gg, 0, none⟩, cp, G, cg, rfl, ?_⟩
      rw [← HPl.out, ← HEnd.out.2]
      exact HF.out q os
end Go.Proofs.YtgampofpabllbaaGreat
/- Package assign: what giving places out comes to: plain laws, no program in sight. -/
namespace Go.Proofs.YtgampofpabllbaaGreat
open Go.RowKit

/-- How many are open. -/
def opens : List Int → Nat
  | [] => 0
  | p :: g => (if p = -1 then 1 else 0) + opens g
theorem opens_le : ∀ g : List Int, opens g ≤ g.length
  | [] => Nat.le_refl _
  | p :: g => by have := opens_le g; unfold opens; split <;> simp <;> omega
theorem opens_set {p : Int} (hp : p ≠ -1) : ∀ {g : List Int} {i : Nat}, i < g.length → g.getD i 0 = -1 → opens (g.set i p) + 1 = opens g
  | x :: g, 0, _, h => by
    have e : x = -1 := h
    subst e
    show (if p = -1 then 1 else 0) + opens g + 1 = (if (-1 : Int) = -1 then 1 else 0) + opens g
    rw [if_neg hp, if_pos rfl]; omega
  | x :: g, i + 1, hi, h => by
    have ih := opens_set hp (g := g) (i := i) (by simpa using hi) h
    show (if x = -1 then 1 else 0) + opens (g.set i p) + 1 = (if x = -1 then 1 else 0) + opens g
    omega
theorem opens_none : ∀ {g : List Int} {i : Nat}, opens g = 0 → i < g.length → g.getD i 0 ≠ -1
  | x :: g, 0, h, _ => by
    intro e
    have e : x = -1 := e
    unfold opens at h
    rw [if_pos e] at h
    omega
  | x :: g, i + 1, h, hi => by
    unfold opens at h
    exact opens_none (g := g) (i := i) (by omega) (by simpa using hi)
theorem opens_rep : ∀ n, opens (List.replicate n (-1)) = n
  | 0 => rfl
  | n + 1 => by rw [List.replicate_succ]; unfold opens; rw [opens_rep n]; simp; omega
/-- What a trial puts where. -/
theorem trG_get (pl : List Int) (m task : Nat) : ∀ (g : List Int) (i j l : Nat), l < g.length →
    (i + l = task → (trG pl m task i j g).getD l 0 = pl.getD m 0) ∧
    (i + l ≠ task → g.getD l 0 ≠ -1 → (trG pl m task i j g).getD l 0 = g.getD l 0) ∧
    (i + l ≠ task → g.getD l 0 = -1 → ∃ s, j ≤ s ∧ s < j + opens g ∧ (i ≤ task → task < i + g.length → g.getD (task - i) 0 = -1 → s + 1 < j + opens g) ∧ (trG pl m task i j g).getD l 0 = pl.getD s 0)
  | p :: g, i, j, l, hl => by
    unfold trG
    by_cases h1 : i = task
    · rw [if_pos h1]
      cases l with
      | zero => exact ⟨fun _ => rfl, fun h => absurd (by omega) h, fun h => absurd (by omega) h⟩
      | succ l =>
        obtain ⟨a, b, c⟩ := trG_get pl m task g (i + 1) j l (by simpa using hl)
        refine ⟨fun h => absurd h (by omega), fun _ h => b (by omega) h, fun _ h => ?_⟩
        obtain ⟨s, s1, s2, s3, s4⟩ := c (by omega) h
        refine ⟨s, s1, ?_, fun _ _ h5 => ?_, s4⟩
        · unfold opens; omega
        · rw [h1, Nat.sub_self] at h5
          have h6 : p = -1 := h5
          unfold opens
          rw [if_pos h6]; omega
    · rw [if_neg h1]
      by_cases h2 : p = -1
      · rw [if_pos h2]
        cases l with
        | zero =>
          refine ⟨fun h => absurd h (by omega), fun _ h => absurd h2 h, fun _ _ => ⟨j, Nat.le_refl _, by unfold opens; rw [if_pos h2]; omega, fun h3 h4 h5 => ?_, rfl⟩⟩
          obtain ⟨k, hk⟩ : ∃ k, task - i = k + 1 := ⟨task - i - 1, by omega⟩
          rw [hk] at h5
          have h6 : g.getD k 0 = -1 := h5
          have h7 : opens g ≠ 0 := fun e => opens_none e (show k < g.length by simp at h4; omega) h6
          unfold opens
          rw [if_pos h2]; omega
        | succ l =>
          obtain ⟨a, b, c⟩ := trG_get pl m task g (i + 1) (j + 1) l (by simpa using hl)
          refine ⟨fun h => a (by omega), fun h3 h => b (by omega) h, fun h3 h => ?_⟩
          obtain ⟨s, s1, s2, s3, s4⟩ := c (by omega) h
          refine ⟨s, by omega, by unfold opens; rw [if_pos h2]; omega, fun h4 h5 h6 => ?_, s4⟩
          have e9 : task - i = (task - (i + 1)) + 1 := by clear s3 c a b; omega
          rw [e9] at h6
          have := s3 (by omega) (by simp at h5; omega) h6
          unfold opens
          rw [if_pos h2]; omega
      · rw [if_neg h2]
        cases l with
        | zero => exact ⟨fun h => absurd h (by omega), fun _ _ => rfl, fun _ h => absurd h h2⟩
        | succ l =>
          obtain ⟨a, b, c⟩ := trG_get pl m task g (i + 1) j l (by simpa using hl)
          refine ⟨fun h => a (by omega), fun h3 h => b (by omega) h, fun h3 h => ?_⟩
          obtain ⟨s, s1, s2, s3, s4⟩ := c (by omega) h
          refine ⟨s, by omega, by unfold opens; rw [if_neg h2]; omega, fun h4 h5 h6 => ?_, s4⟩
          have e9 : task - i = (task - (i + 1)) + 1 := by clear s3 c a b; omega
          rw [e9] at h6
          have := s3 (by omega) (by simp at h5; omega) h6
          unfold opens
          rw [if_neg h2]; omega
/-- How far the giving out is: m places are given. -/
structure Gv (pl : List Int) (n m : Nat) (g : List Int) : Prop where
  len : g.length = n
  op : opens g + m = n
  val : ∀ j, j < n → g.getD j 0 = -1 ∨ ∃ r, r < m ∧ g.getD j 0 = pl.getD r 0
theorem Gv.start (pl : List Int) (n : Nat) : Gv pl n 0 (List.replicate n (-1)) :=
  ⟨by simp, by rw [opens_rep]; rfl, fun j hj => .inl (by simp [List.getD, hj])⟩
theorem Gv.give {pl : List Int} {n m i : Nat} {g : List Int} (h : Gv pl n m g) (hi : i < n) (ho : g.getD i 0 = -1) (hp : pl.getD m 0 ≠ -1) : Gv pl n (m + 1) (g.set i (pl.getD m 0)) := by
  refine ⟨by rw [List.length_set, h.len], ?_, fun j hj => ?_⟩
  · have := opens_set hp (i := i) (by rw [h.len]; exact hi) ho
    have := h.op
    omega
  · by_cases e : i = j
    · subst e
      exact .inr ⟨m, by omega, getD_set_eq (by rw [h.len]; exact hi)⟩
    · rw [getD_set_ne e]
      rcases h.val j hj with h1 | ⟨r, h1, h2⟩
      · exact .inl h1
      · exact .inr ⟨r, by omega, h2⟩
/-- Of an end: who had which place when. -/
theorem asg_end {fit : Nat → List Int → Nat → Bool} {pl : List Int} {n : Nat} (hpl : ∀ r, r < n → pl.getD r 0 ≠ -1) : ∀ (k m : Nat) (g gf : List Int), k + m = n → Gv pl n m g → asgGo fit pl k m g = some gf →
    Gv pl n n gf ∧ (∀ j, j < n → g.getD j 0 ≠ -1 → gf.getD j 0 = g.getD j 0) ∧
    (∀ j, j < n → g.getD j 0 = -1 → ∃ r gr, m ≤ r ∧ r < n ∧ gf.getD j 0 = pl.getD r 0 ∧ Gv pl n r gr ∧ gr.getD j 0 = -1 ∧ fit r gr j = true ∧
      (∀ l, l < n → gr.getD l 0 ≠ -1 → gf.getD l 0 = gr.getD l 0) ∧ (∀ l, l < n → l ≠ j → gr.getD l 0 = -1 → ∃ r', r < r' ∧ r' < n ∧ gf.getD l 0 = pl.getD r' 0))
  | 0, m, g, gf, hk, hg, h => by
    injection h with h
    subst h
    obtain rfl : m = n := by omega
    have h0 : opens g = 0 := by have := hg.op; omega
    exact ⟨hg, fun _ _ _ => rfl, fun j hj h1 => absurd h1 (opens_none h0 (by rw [hg.len]; exact hj))⟩
  | k + 1, m, g, gf, hk, hg, h => by
    unfold asgGo at h
    cases hf : firstFit (fit m g) 0 g with
    | none => rw [hf] at h; cases h
    | some i =>
      rw [hf] at h
      obtain ⟨-, f2, f3, f4⟩ := firstFit_at hf
      rw [Nat.sub_zero] at f3
      rw [Nat.zero_add, hg.len] at f2
      obtain ⟨a, b, c⟩ := asg_end hpl k (m + 1) _ gf (by omega) (hg.give f2 f3 (hpl m (by omega))) h
      have hi2 : gf.getD i 0 = pl.getD m 0 := by
        have h3 : (g.set i (pl.getD m 0)).getD i 0 = pl.getD m 0 := getD_set_eq (by rw [hg.len]; exact f2)
        rw [b i f2 (by rw [h3]; exact hpl m (by omega)), h3]
      have hb2 : ∀ j, j < n → g.getD j 0 ≠ -1 → gf.getD j 0 = g.getD j 0 := fun j hj h1 => by
        have e : i ≠ j := fun e => h1 (e ▸ f3)
        have h3 : (g.set i (pl.getD m 0)).getD j 0 = g.getD j 0 := getD_set_ne e
        rw [b j hj (by rw [h3]; exact h1), h3]
      refine ⟨a, hb2, fun j hj h1 => ?_⟩
      by_cases e : i = j
      · subst e
        refine ⟨m, g, Nat.le_refl _, by omega, hi2, hg, f3, f4, hb2, fun l hl hne h2 => ?_⟩
        have h3 : (g.set i (pl.getD m 0)).getD l 0 = g.getD l 0 := getD_set_ne (fun e => hne e.symm)
        obtain ⟨r, gr, r1, r2, r3, _⟩ := c l hl (by rw [h3]; exact h2)
        exact ⟨r, by omega, r2, r3⟩
      · have h3 : (g.set i (pl.getD m 0)).getD j 0 = g.getD j 0 := getD_set_ne e
        obtain ⟨r, gr, r1, r2, r3, r4⟩ := c j hj (by rw [h3]; exact h1)
        exact ⟨r, gr, by omega, r2, r3, r4⟩
/-! what a bound hangs on -/
/-- Two lists of tasks that are alike but for their priorities, and as urgent beside p. -/
def AlikeP (p : Int) (ts us : List Tk) : Prop :=
  ts.length = us.length ∧ ∀ k, k < ts.length → (∃ q, us.getD k tk0 = { ts.getD k tk0 with prio := q }) ∧ (p < (ts.getD k tk0).prio ↔ p < (us.getD k tk0).prio) ∧ ((ts.getD k tk0).prio < p ↔ (us.getD k tk0).prio < p)
theorem alike_ceil {p : Int} {ts us : List Tk} (h : AlikeP p ts us) (m : Int) : ∀ k, k ≤ ts.length → (p ≤ ceilN ts m k ↔ p ≤ ceilN us m k)
  | 0, _ => Iff.rfl
  | k + 1, hk => by
    have ih := alike_ceil h m k (by omega)
    obtain ⟨⟨q, e⟩, h1, h2⟩ := h.2 k (by omega)
    have el : (us.getD k tk0).lock = (ts.getD k tk0).lock := by rw [e]
    show p ≤ (if (ts.getD k tk0).lock = m then max (ceilN ts m k) (ts.getD k tk0).prio else ceilN ts m k) ↔ p ≤ (if (us.getD k tk0).lock = m then max (ceilN us m k) (us.getD k tk0).prio else ceilN us m k)
    rw [el]
    split <;> omega
theorem alike_block {p : Int} {ts us : List Tk} (h : AlikeP p ts us) : ∀ k, k ≤ ts.length → blockN ts p k = blockN us p k
  | 0, _ => rfl
  | k + 1, hk => by
    have ih := alike_block h k (by omega)
    obtain ⟨⟨q, e⟩, h1, h2⟩ := h.2 k (by omega)
    have hc := alike_ceil h (ts.getD k tk0).lock ts.length (Nat.le_refl _)
    have el : (us.getD k tk0).lock = (ts.getD k tk0).lock := by rw [e]
    have eb : blockB ts p (ts.getD k tk0) = blockB us p (us.getD k tk0) := by
      unfold blockB
      rw [el, ← h.1, decide_eq_decide.2 h2, decide_eq_decide.2 hc]
    have eh : (us.getD k tk0).hi = (ts.getD k tk0).hi := by rw [e]
    have eo : (us.getD k tk0).lo = (ts.getD k tk0).lo := by rw [e]
    show (if blockB ts p (ts.getD k tk0) then max (blockN ts p k) ((ts.getD k tk0).hi - (ts.getD k tk0).lo) else blockN ts p k) = (if blockB us p (us.getD k tk0) then max (blockN us p k) ((us.getD k tk0).hi - (us.getD k tk0).lo) else blockN us p k)
    rw [eb, ih, eh, eo]
theorem alike_urg {p mn sw : Int} {ts us : List Tk} (h : AlikeP p ts us) : ∀ k, k ≤ ts.length → urgL mn sw ts p k = urgL mn sw us p k
  | 0, _ => rfl
  | k + 1, hk => by
    have ih := alike_urg (mn := mn) (sw := sw) h k (by omega)
    obtain ⟨⟨q, e⟩, h1, h2⟩ := h.2 k (by omega)
    have eu : urgT mn sw (us.getD k tk0) = urgT mn sw (ts.getD k tk0) := by rw [e]; rfl
    show urgL mn sw ts p k ++ (if p < (ts.getD k tk0).prio then [urgT mn sw (ts.getD k tk0)] else []) = urgL mn sw us p k ++ (if p < (us.getD k tk0).prio then [urgT mn sw (us.getD k tk0)] else [])
    rw [ih, eu]
    by_cases h3 : p < (ts.getD k tk0).prio
    · rw [if_pos h3, if_pos (h1.1 h3)]
    · rw [if_neg h3, if_neg (fun h4 => h3 (h1.2 h4))]
theorem alike_bound {mn sw : Int} {ts us : List Tk} {ls : List Ln} {hs : List Th} {x : Tk} (h : AlikeP x.prio ts us) : boundR mn sw ts ls hs x = boundR mn sw us ls hs x := by
  have h1 : baseN sw ts x = baseN sw us x := by unfold baseN; rw [alike_block h _ (Nat.le_refl _), h.1]
  have h2 : loadsL mn sw ts ls hs x.prio = loadsL mn sw us ls hs x.prio := by unfold loadsL; rw [alike_urg h _ (Nat.le_refl _), h.1]
  unfold boundR
  rw [h1, h2]
end Go.Proofs.YtgampofpabllbaaGreat
/- Package assign: an assignment is accepted, and deals out the tasks' own priorities: plain laws, no program in sight. -/
namespace Go.Proofs.YtgampofpabllbaaGreat
open Go.RowKit

theorem perm_sub : ∀ {l m : List Int}, l.Nodup → (∀ x ∈ l, x ∈ m) → m.length ≤ l.length → l.Perm m
  | [], m, _, _, h => by
    have : m = [] := List.eq_nil_of_length_eq_zero (by simpa using h)
    rw [this]
  | x :: l, m, hn, hs, hl => by
    obtain ⟨n1, n2⟩ := List.nodup_cons.1 hn
    have hx : x ∈ m := hs x (by simp)
    have hp := List.perm_cons_erase hx
    have hlen : (m.erase x).length = m.length - 1 := List.length_erase_of_mem hx
    have hm : 0 < m.length := List.length_pos_of_mem hx
    have ih := perm_sub (l := l) (m := m.erase x) n2 (fun y hy => (List.mem_erase_of_ne (fun e => n1 (by rw [← e]; exact hy))).2 (hs y (by simp [hy]))) (by rw [hlen]; simp at hl; omega)
    exact (List.Perm.cons x ih).trans hp.symm
theorem places_perm (ts : List Tk) : (placesL ts).Perm (ts.map (·.prio)) := List.mergeSort_perm _ _
theorem places_sorted (ts : List Tk) : List.Pairwise (fun x y : Int => x ≤ y) (placesL ts) := by
  have h := List.pairwise_mergeSort (le := fun x y : Int => decide (x ≤ y)) (fun a b c h1 h2 => by simp at *; omega) (fun a b => by simp; omega) (ts.map (·.prio))
  exact h.imp fun h => by simpa using h
theorem getD_of {l : List Int} {k : Nat} (h : k < l.length) : l.getD k 0 = l[k] := by simp [List.getD, h]
theorem places_up {ts : List Tk} (hn : (ts.map (·.prio)).Nodup) {r s : Nat} (h : r < s) (hs : s < ts.length) : (placesL ts).getD r 0 < (placesL ts).getD s 0 := by
  have hl := places_len ts
  have h1 := List.pairwise_iff_getElem.1 (places_sorted ts) r s (by omega) (by omega) h
  have h2 := List.pairwise_iff_getElem.1 (((places_perm ts).nodup_iff).2 hn) r s (by omega) (by omega) h
  rw [getD_of (by omega), getD_of (by omega)]
  have h3 : (placesL ts)[r] ≠ (placesL ts)[s] := h2
  omega
theorem places_mem {ts : List Tk} {r : Nat} (h : r < ts.length) : (placesL ts).getD r 0 ∈ ts.map (·.prio) := by
  have hl := places_len ts
  rw [getD_of (by omega)]
  exact (places_perm ts).mem_iff.1 (List.getElem_mem _)
theorem places_in {ts : List Tk} {sw : Int} (h : ∀ t ∈ ts, TkIn t sw) {r : Nat} (hr : r < ts.length) : 0 ≤ (placesL ts).getD r 0 ∧ (placesL ts).getD r 0 ≤ 63 := by
  obtain ⟨t, ht, e⟩ := List.mem_map.1 (places_mem hr)
  rw [← e]
  exact (h t ht).prio
/-- A right configuration whose tasks' priorities are dealt out anew is right. -/
theorem why_deal {mn mx sw : Int} {ts : List Tk} {ls : List Ln} {hs : List Th} {q : List Int} (h : Cf.why ⟨mn, mx, sw, ts, ls, hs⟩ = 0) (hq : q.Perm (ts.map (·.prio))) : Cf.why ⟨mn, mx, sw, putP ts q, ls, hs⟩ = 0 := by
  have hz := first_zero h
  have hc := cfIn_of h
  have hlen := putP_len ts q
  have hql : q.length = ts.length := by have := hq.length_eq; simpa using this
  have fz : ∀ {l : List Fl}, (∀ f ∈ l, f.why = 0) → (firstOf l).1.why = 0 := fun {l} => by
    induction l with
    | nil => intro _; rfl
    | cons g l ih => intro h; rw [firstOf_cons, if_neg (by simp [h g (by simp)])]; exact ih fun f hf => h f (by simp [hf])
  have numIn : ∀ {p : Int} {l : List Int} {i : Nat} {f : Fl}, f ∈ numb p i l → f.why ∈ l := fun {p l} => by
    induction l with
    | nil => intro i f h; cases h
    | cons z l ih =>
      intro i f h
      rcases List.mem_cons.1 (show f ∈ (⟨p, i, z⟩ : Fl) :: numb p (i + 1) l from h) with rfl | h
      · simp
      · exact List.mem_cons_of_mem _ (ih h)
  have pn : ∀ {l s : List Int}, l.Nodup → (∀ p ∈ l, p ∉ s) → ∀ y ∈ prWhys s l, y = 0 := fun {l} => by
    induction l with
    | nil => intro s _ _ y h; cases h
    | cons p l ih =>
      intro s h1 h2 y h
      rcases List.mem_cons.1 (show y ∈ (if p ∈ s then (12 : Int) else 0) :: prWhys (p :: s) l from h) with rfl | h
      · rw [if_neg (h2 p (by simp))]
      · obtain ⟨a, b⟩ := List.nodup_cons.1 h1
        refine ih b (fun q hq hm => ?_) y h
        rcases List.mem_cons.1 hm with rfl | hm
        · exact a hq
        · exact h2 q (by simp [hq]) hm
  refine fz fun f hf => ?_
  unfold Cf.looks Cf.heads at hf
  rcases List.mem_append.1 hf with hf | hf
  · rcases List.mem_cons.1 hf with rfl | hf
    · exact hz ⟨1, 0, tmWhy mn mx⟩ (by simp [Cf.looks, Cf.heads])
    rcases List.mem_cons.1 hf with rfl | hf
    · exact hz ⟨2, 0, chWhy sw⟩ (by simp [Cf.looks, Cf.heads])
    rcases List.mem_cons.1 hf with rfl | hf
    · show mnWhy (putP ts q).length ls.length hs.length = 0
      rw [hlen]
      exact hz ⟨3, 0, mnWhy ts.length ls.length hs.length⟩ (by simp [Cf.looks, Cf.heads])
    · cases hf
  rcases List.mem_append.1 hf with hf | hf
  · obtain ⟨t, ht, e⟩ := List.mem_map.1 (numIn hf)
    rw [← e]
    obtain ⟨k, hk, ek⟩ := List.getElem_of_mem ht
    dsimp only at hk
    rw [hlen] at hk
    have e2 : t = { ts.getD k tk0 with prio := q.getD k 0 } := by
      rw [← putP_get ts q hk, ← ek]
      simp [List.getD, hlen, hk]
    have hx : TkIn (ts.getD k tk0) sw := hc.ts _ (getD_mem hk)
    have hpm : q.getD k 0 ∈ ts.map (·.prio) := by
      rw [getD_of (by omega)]
      exact hq.mem_iff.1 (List.getElem_mem _)
    obtain ⟨u, hu, eu⟩ := List.mem_map.1 hpm
    have hp : 0 ≤ q.getD k 0 ∧ q.getD k 0 ≤ 63 := by rw [← eu]; exact (hc.ts u hu).prio
    obtain ⟨g, hg, e3⟩ := numb_has (p := 4) (i := 0) (l := ts.map fun t => tkWhy t sw) (List.mem_map.2 ⟨_, getD_mem (d := tk0) hk, rfl⟩)
    have h9 : tkWhy (ts.getD k tk0) sw = 0 := by rw [← e3]; exact hz g (by unfold Cf.looks; simp [hg])
    rw [e2]
    refine Eq.trans ?_ h9
    have hp0 := hx.prio
    unfold tkWhy
    dsimp only
    rw [inB_true.2 hp, inB_true.2 hp0]
  rcases List.mem_append.1 hf with hf | hf
  · exact hz f (by unfold Cf.looks; simp [hf])
  rcases List.mem_append.1 hf with hf | hf
  · exact hz f (by unfold Cf.looks; simp [hf])
  · refine pn ?_ (by simp) _ (numIn hf)
    have hn := hc.nodup
    unfold Cf.prios at hn ⊢
    dsimp only at hn ⊢
    rw [putP_prios _ _ hql]
    exact (List.Perm.nodup_iff (List.Perm.append_right _ hq)).2 hn
theorem fitY_zero {mn mx sw : Int} {ts : List Tk} {ls : List Ln} {hs : List Th} {i : Nat} (h : fitY mn mx sw ts ls hs i = 0) : (boundR mn sw ts ls hs (ts.getD i tk0)).2 = 0 := by
  unfold fitY at h
  split at h
  · exact h
  · rename_i h1; exact absurd h h1
theorem place_lt {s r o n : Nat} (h : s + 1 < r + 1 + o) (h2 : o + r = n) : s < n := by omega
/-- What an assignment is. -/
theorem asg_good {mn mx sw : Int} {ts : List Tk} {ls : List Ln} {hs : List Th} {gf : List Int} (h : Cf.why ⟨mn, mx, sw, ts, ls, hs⟩ = 0) (ha : asgP mn mx sw ts ls hs = some gf) :
    gf.Perm (ts.map (·.prio)) ∧ ∀ j, j < ts.length → (boundR mn sw (putP ts gf) ls hs ((putP ts gf).getD j tk0)).2 = 0 := by
  have hc := cfIn_of h
  have hts := hc.ts
  have hnd := hc.nodup
  unfold Cf.prios at hnd
  dsimp only at hts hnd
  have hn := (List.nodup_append.1 hnd).1
  have hpl : ∀ r, r < ts.length → (placesL ts).getD r 0 ≠ -1 := fun r hr => by have := places_in hts hr; omega
  obtain ⟨hg, -, he⟩ := asg_end hpl ts.length 0 _ gf rfl (Gv.start _ _) ha
  have h0 : ∀ j, j < ts.length → (List.replicate ts.length (-1 : Int)).getD j 0 = -1 := fun j hj => by simp [List.getD, hj]
  have hup : ∀ {r s : Nat}, r < s → s < ts.length → (placesL ts).getD r 0 < (placesL ts).getD s 0 := fun h1 h2 => places_up hn h1 h2
  constructor
  · refine perm_sub ?_ (fun x hx => ?_) (by rw [List.length_map, hg.len]; exact Nat.le_refl _)
    · refine List.pairwise_iff_getElem.2 fun i j hi hj hij e => ?_
      rw [hg.len] at hi hj
      obtain ⟨r, gr, r1, r2, r3, r4, r5, r6, r7, r8⟩ := he i hi (h0 i hi)
      have e2 : gf.getD i 0 = gf.getD j 0 := by rw [getD_of (by rw [hg.len]; exact hi), getD_of (by rw [hg.len]; exact hj)]; exact e
      rcases r4.val j hj with h1 | ⟨s, h1, h2⟩
      · obtain ⟨r', h3, h4, h5⟩ := r8 j hj (by omega) h1
        have := hup h3 h4
        omega
      · have h3 := r7 j hj (by rw [h2]; exact hpl s (by omega))
        have := hup h1 r2
        omega
    · obtain ⟨k, hk, ek⟩ := List.getElem_of_mem hx
      rw [hg.len] at hk
      obtain ⟨r, gr, r1, r2, r3, _⟩ := he k hk (h0 k hk)
      rw [← ek, ← getD_of (by rw [hg.len]; exact hk), r3]
      exact places_mem r2
  · intro j hj
    obtain ⟨r, gr, r1, r2, r3, r4, r5, r6, r7, r8⟩ := he j hj (h0 j hj)
    have hf := fitY_zero (show fitY mn mx sw (putP ts (tryP (placesL ts) r j gr)) ls hs j = 0 by
      unfold fitB at r6
      simpa using r6)
    have ej1 : (tryP (placesL ts) r j gr).getD j 0 = (placesL ts).getD r 0 := (trG_get _ _ _ gr 0 _ j (by rw [r4.len]; exact hj)).1 (by omega)
    have e1 : (putP ts (tryP (placesL ts) r j gr)).getD j tk0 = (putP ts gf).getD j tk0 := by
      rw [putP_get _ _ hj, putP_get _ _ hj, ej1, r3]
    rw [e1] at hf
    rw [← alike_bound (ts := putP ts (tryP (placesL ts) r j gr)) (us := putP ts gf) (x := (putP ts gf).getD j tk0) ?_]
    · exact hf
    · have ep : ((putP ts gf).getD j tk0).prio = (placesL ts).getD r 0 := by rw [putP_get _ _ hj]; exact r3
      refine ⟨by rw [putP_len, putP_len], fun k hk => ?_⟩
      rw [putP_len] at hk
      rw [ep, putP_get _ _ hk, putP_get _ _ hk]
      dsimp only
      refine ⟨⟨gf.getD k 0, rfl⟩, ?_⟩
      by_cases ekj : k = j
      · subst ekj
        rw [ej1, r3]
        exact ⟨Iff.rfl, Iff.rfl⟩
      · obtain ⟨-, t1, t2⟩ := trG_get (placesL ts) r j gr 0 (r + 1) k (by rw [r4.len]; exact hk)
        rcases r4.val k hk with h1 | ⟨s, h1, h2⟩
        · obtain ⟨s, s1, s2, s3, s4⟩ := t2 (by omega) h1
          have hs3 := s3 (Nat.zero_le _) (by rw [r4.len]; omega) (by rw [Nat.sub_zero]; exact r5)
          have hop := r4.op
          clear t1 t2 r6 r7
          have hb1 := hup (Nat.lt_of_succ_le s1) (place_lt hs3 hop)
          obtain ⟨r', h3, h4, h5⟩ := r8 k hk ekj h1
          have hb2 := hup h3 h4
          have e4 : (tryP (placesL ts) r j gr).getD k 0 = (placesL ts).getD s 0 := s4
          rw [e4, h5]
          omega
        · have h6 : gr.getD k 0 ≠ -1 := by rw [h2]; exact hpl s (Nat.lt_trans h1 r2)
          have e4 : (tryP (placesL ts) r j gr).getD k 0 = gr.getD k 0 := t1 (by rw [Nat.zero_add]; exact ekj) h6
          rw [e4, r7 k hk h6]
          exact ⟨Iff.rfl, Iff.rfl⟩
end Go.Proofs.YtgampofpabllbaaGreat

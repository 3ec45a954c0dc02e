/- vergeref36: the document's places and order are the package's: plain laws, no program in sight. -/
import Derived.Test.YtgampofpabllbaaGreatAsX3E
import Derived.Test.YtgampofpabllbaaGreatAsX1E
import Derived.Test.YtgampofpabllbaaGreatAsX2E
import Derived.Test.YtgampofpabllbaaGreatRtTWE
namespace Go.Proofs.YtgampofpabllbaaGreat
open Go.RowKit

theorem count_eqf (q : List Int) (p x : Int) : (q.filter (fun y => y == p)).count x = if x = p then q.count x else 0 := by
  by_cases h : x = p
  · rw [if_pos h, List.count_filter (by simpa using h)]
  · rw [if_neg h, List.count_eq_zero]
    intro hm
    exact h (by simpa using (List.mem_filter.1 hm).2)
/-- The numbers below p, rising. -/
def ppK (q : List Int) : Nat → List Int
  | 0 => []
  | p + 1 => ppK q p ++ q.filter (fun y => y == (p : Int))
theorem pp_count (q : List Int) (x : Int) : ∀ n, (ppK q n).count x = if 0 ≤ x ∧ x < (n : Int) then q.count x else 0
  | 0 => by rw [if_neg (by omega)]; rfl
  | n + 1 => by
    show (ppK q n ++ _).count x = _
    rw [List.count_append, pp_count q x n, count_eqf]
    by_cases h : x = (n : Int)
    · rw [if_neg (by omega), if_pos h, if_pos (by omega)]; omega
    · rw [if_neg h]
      by_cases h2 : 0 ≤ x ∧ x < (n : Int)
      · rw [if_pos h2, if_pos (by omega)]; rfl
      · rw [if_neg h2, if_neg (by omega)]
theorem pp_perm {q : List Int} {n : Nat} (h : ∀ x ∈ q, 0 ≤ x ∧ x < (n : Int)) : (ppK q n).Perm q := List.perm_iff_count.2 fun x => by
  rw [pp_count]
  by_cases h2 : 0 ≤ x ∧ x < (n : Int)
  · rw [if_pos h2]
  · rw [if_neg h2]
    exact (List.count_eq_zero.2 fun hm => h2 (h x hm)).symm
theorem pp_lt {q : List Int} {x : Int} : ∀ {n : Nat}, x ∈ ppK q n → x < (n : Int)
  | 0, h => by cases h
  | n + 1, h => by
    rcases List.mem_append.1 (show x ∈ ppK q n ++ _ from h) with h1 | h1
    · have := pp_lt h1; omega
    · have : x = (n : Int) := by simpa using (List.mem_filter.1 h1).2
      omega
theorem pp_sorted (q : List Int) : ∀ n, List.Pairwise (fun x y : Int => x ≤ y) (ppK q n)
  | 0 => List.Pairwise.nil
  | n + 1 => by
    show List.Pairwise _ (ppK q n ++ _)
    refine List.pairwise_append.2 ⟨pp_sorted q n, ?_, fun a ha b hb => ?_⟩
    · refine List.pairwise_iff_getElem.2 fun i j hi hj _ => ?_
      have h1 := (List.mem_filter.1 (List.getElem_mem hi)).2
      have h2 := (List.mem_filter.1 (List.getElem_mem hj)).2
      rw [beq_iff_eq] at h1 h2
      omega
    · have := pp_lt ha
      have h2 : b = (n : Int) := by simpa using (List.mem_filter.1 hb).2
      omega
theorem pp_len (q : List Int) : ∀ n, (ppK q n).length ≤ n * q.length
  | 0 => by simp [ppK]
  | n + 1 => by
    have := pp_len q n
    have h2 := List.length_filter_le (fun y => y == (n : Int)) q
    show (ppK q n ++ _).length ≤ _
    rw [List.length_append, Nat.succ_mul]; omega
/-- The places whose numbers are above 63 - k, falling. -/
def ooK (f : Nat → Int) (n : Nat) : Nat → List Nat
  | 0 => []
  | k + 1 => ooK f n k ++ (List.range n).filter (fun i => f i == 63 - (k : Int))
theorem oo_mem (f : Nat → Int) (n i : Nat) : ∀ k, i ∈ ooK f n k ↔ i < n ∧ 63 - (k : Int) < f i ∧ f i ≤ 63
  | 0 => by simp [ooK]
  | k + 1 => by
    show i ∈ ooK f n k ++ _ ↔ _
    rw [List.mem_append, oo_mem f n i k, List.mem_filter, List.mem_range]
    simp only [beq_iff_eq]
    omega
theorem oo_down (f : Nat → Int) (n : Nat) : ∀ k, List.Pairwise (fun x y => f y ≤ f x) (ooK f n k)
  | 0 => List.Pairwise.nil
  | k + 1 => by
    show List.Pairwise _ (ooK f n k ++ _)
    refine List.pairwise_append.2 ⟨oo_down f n k, ?_, fun a ha b hb => ?_⟩
    · refine List.pairwise_iff_getElem.2 fun i j hi hj _ => ?_
      have h1 := (List.mem_filter.1 (List.getElem_mem hi)).2
      have h2 := (List.mem_filter.1 (List.getElem_mem hj)).2
      rw [beq_iff_eq] at h1 h2
      omega
    · have h1 := ((oo_mem f n a k).1 ha).2.1
      have h2 := (List.mem_filter.1 hb).2
      rw [beq_iff_eq] at h2
      omega
theorem oo_nodup (f : Nat → Int) (n : Nat) : ∀ k, (ooK f n k).Nodup
  | 0 => List.Pairwise.nil
  | k + 1 => by
    show List.Pairwise _ (ooK f n k ++ _)
    refine List.pairwise_append.2 ⟨oo_nodup f n k, List.Pairwise.filter _ List.nodup_range, fun a ha b hb => ?_⟩
    have h1 := ((oo_mem f n a k).1 ha).2.1
    have h2 := (List.mem_filter.1 hb).2
    rw [beq_iff_eq] at h2
    intro e
    subst e
    omega
theorem oo_perm {f : Nat → Int} {n : Nat} (h : ∀ i, i < n → 0 ≤ f i ∧ f i ≤ 63) : (ooK f n 64).Perm (List.range n) := by
  refine (List.perm_ext_iff_of_nodup (oo_nodup f n 64) List.nodup_range).2 fun i => ?_
  rw [oo_mem, List.mem_range]
  constructor
  · exact fun h => h.1
  · intro hi
    have := h i hi
    omega
theorem oo_eq {f : Nat → Int} {n : Nat} {l : List Nat} (h : ∀ i, i < n → 0 ≤ f i ∧ f i ≤ 63) (hi : ∀ i j, i < n → j < n → f i = f j → i = j) (hp : l.Perm (List.range n)) (hd : List.Pairwise (fun x y => f y ≤ f x) l) : ooK f n 64 = l := by
  refine List.Perm.eq_of_pairwise (le := fun x y => f y ≤ f x) (fun a b ha hb h1 h2 => ?_) (oo_down f n 64) hd ((oo_perm h).trans hp.symm)
  exact hi a b (List.mem_range.1 ((oo_perm h).mem_iff.1 ha)) (List.mem_range.1 (hp.mem_iff.1 hb)) (by omega)
theorem oo_len (f : Nat → Int) (n : Nat) : ∀ k, (ooK f n k).length ≤ k * n
  | 0 => by simp [ooK]
  | k + 1 => by
    have := oo_len f n k
    have h2 := List.length_filter_le (fun i => f i == 63 - (k : Int)) (List.range n)
    rw [List.length_range] at h2
    show (ooK f n k ++ _).length ≤ _
    rw [List.length_append, Nat.succ_mul]; omega
theorem takeP' {α : Type} {l : List α} {k : Nat} {d : α} (h : k < l.length) : l.take (k + 1) = l.take k ++ [l.getD k d] := by
  have e : l.getD k d = l[k] := by simp [List.getD, h]
  rw [e]; exact (List.take_append_getElem h).symm
theorem pf_step (q : List Int) (p : Int) {i : Nat} (h : i < q.length) : (q.take (i + 1)).filter (fun y => y == p) = (q.take i).filter (fun y => y == p) ++ if q.getD i 0 = p then [p] else [] := by
  rw [takeP' (d := 0) h, List.filter_append]
  congr 1
  by_cases e : q.getD i 0 = p
  · rw [if_pos e, List.filter_cons, if_pos (by rw [e]; exact beq_self_eq_true p), e]; rfl
  · rw [if_neg e, List.filter_cons, if_neg (by simpa using e)]; rfl
theorem of_step (f : Nat → Int) (p : Int) (i : Nat) : (List.range (i + 1)).filter (fun i => f i == p) = (List.range i).filter (fun i => f i == p) ++ if f i = p then [i] else [] := by
  rw [List.range_succ, List.filter_append]
  congr 1
  by_cases e : f i = p
  · rw [if_pos e, List.filter_cons, if_pos (by rw [e]; exact beq_self_eq_true p)]; rfl
  · rw [if_neg e, List.filter_cons, if_neg (by simpa using e)]; rfl
theorem places36_eq {ts : List Tk} (h : ∀ t ∈ ts, 0 ≤ t.prio ∧ t.prio ≤ 63) : ppK (ts.map (·.prio)) 64 = placesL ts := by
  refine sorted_eq ((pp_perm fun x hx => ?_).trans (places_perm ts).symm) (pp_sorted _ 64) (places_sorted ts)
  obtain ⟨t, ht, rfl⟩ := List.mem_map.1 hx
  have := h t ht
  omega
/-- How many of the first k are given. -/
theorem opens_take {g : List Int} {k : Nat} (h : k < g.length) : opens (g.take (k + 1)) = opens (g.take k) + if g.getD k 0 = -1 then 1 else 0 := by
  rw [takeP' (d := 0) h]
  have : ∀ a b : List Int, opens (a ++ b) = opens a + opens b := fun a b => by
    induction a with
    | nil => simp [opens]
    | cons x a ih => show (if x = -1 then 1 else 0) + opens (a ++ b) = (if x = -1 then 1 else 0) + opens a + opens b; rw [ih]; omega
  rw [this]
  rfl
end Go.Proofs.YtgampofpabllbaaGreat
/- vergeref36: the walks of places, Order. Conditions: lists that read. -/
namespace Go.Proofs.YtgampofpabllbaaGreat
open Go.RowKit Go.Shelf
attribute [local go_sem] Oper.semAt_some
theorem order36_eq {ts : List Tk} (h : ∀ t ∈ ts, 0 ≤ t.prio ∧ t.prio ≤ 63) (hn : (ts.map (·.prio)).Nodup) : ooK (prK ts) ts.length 64 = ordL ts := by
  have hk : ∀ i, i < ts.length → ts.getD i tk0 ∈ ts := fun i hi => by
    have e : ts.getD i tk0 = ts[i] := by simp [List.getD, hi]
    rw [e]; exact List.getElem_mem hi
  refine oo_eq (fun i hi => h _ (hk i hi)) (fun i j hi hj e => ?_) (ord_perm ts) (ord_down ts)
  have ex : ∀ (k : Nat) (hk : k < (ts.map (·.prio)).length), (ts.map (·.prio))[k] = prK ts k := fun k hk => by
    have hk2 : k < ts.length := by simpa using hk
    unfold prK; simp [List.getD, hk2]
  have hp := List.pairwise_iff_getElem.1 hn
  have hi2 : i < (ts.map (·.prio)).length := by rw [List.length_map]; exact hi
  have hj2 : j < (ts.map (·.prio)).length := by rw [List.length_map]; exact hj
  rcases Nat.lt_trichotomy i j with h1 | h1 | h1
  · exact absurd (by rw [ex, ex, e]) (hp i j hi2 hj2 h1)
  · exact h1
  · exact absurd (by rw [ex, ex, e]) (hp j i hj2 hi2 h1)

set_option maxHeartbeats 1000000 in
set_option maxRecDepth 100000 in
theorem places36_any (mn mx sw : Int) (ts : List Tk) (ls : List Ln) (hs : List Th) (A : Option Addr) (ca : Nat) (B : Option Addr) (cb : Nat) (D : Option Addr) (cd : Nat) (w : World)
    (hlt0 : ts.length ≤ 1048576) (ht : Rd w A (ts.flatMap tkc)) :
    Calls Tryz.prog 23 #[cfv mn mx sw A ts.length ca B ls.length cb D hs.length cd] w fun e w' => ∃ (P : Option Addr) (cp : Nat), e = .returned (.slice P (ppK (ts.map (·.prio)) 64).length cp) ∧
      w'.ownsRow w.heap.size 3 1 (.slice P (ppK (ts.map (·.prio)) 64).length cp) (ppK (ts.map (·.prio)) 64).length ((ppK (ts.map (·.prio)) 64).map (.int .i64)) ∧ Below w.heap.size w w' := by
  have Ht := Lib.hid ht
  have HL := Lib.hid (fun n => pp_len (ts.map (·.prio)) n)
  obtain ⟨pp, hpp⟩ : ∃ pp, ppK (ts.map (·.prio)) 64 = pp := ⟨_, rfl⟩
  rw [hpp]
  have HPP := Lib.hid hpp
  clear ht hpp
  unfold cfv
  go_enter Tryz.func23, Tryz.ntmps23
  go_upto_region 1 with fail
  refine name_world fun W hW => ?_
  have HC : Hid (W.heap[w.heap.size]? = some (.cells #[.int .i64 mn, .int .i64 mx, .int .i64 sw, .slice A ts.length ca, .slice B ls.length cb, .slice D hs.length cd] 28 (0, 0))) := Lib.hid (by rw [hW]; exact heap_alloc_new w _)
  have HB : Hid (Below w.heap.size w W) := Lib.hid (by rw [hW]; exact (Below.refl _ _).alloc (Nat.le_refl _) _)
  have HO : Hid (W.ownsRow (w.heap.size + 1) 3 1 (.slice none ([] : List Int).length 0) ([] : List Int).length (([] : List Int).map (.int .i64))) := Lib.hid (own_nilK _ _ _ _)
  clear hW
  go_wp2
  go_loopw [3, 4] (fun o pi wr => ∃ (p : Nat) (l : List Int) (P : Option Addr) (cp : Nat), p ≤ 64 ∧ pi = .int .i64 p ∧ o = .slice P l.length cp ∧ Hid (l = ppK (ts.map (·.prio)) p) ∧
    Hid (wr.ownsRow (w.heap.size + 1) 3 1 (.slice P l.length cp) l.length (l.map (.int .i64))) ∧ Hid (wr.heap[w.heap.size]? = some (.cells #[.int .i64 mn, .int .i64 mx, .int .i64 sw, .slice A ts.length ca, .slice B ls.length cb, .slice D hs.length cd] 28 (0, 0))) ∧ Hid (Below w.heap.size w wr)) (fun _ pi _ => 64 - (intOf pi).toNat)
  case atStart => exact ⟨0, [], none, 0, by omega, rfl, rfl, Lib.hid rfl, HO, HC, HB⟩
  case round =>
    obtain ⟨p, l, P, cp, hp, rfl, rfl, HE, HOr, HCr, HBr⟩ := hrel
    clear HO HC HB
    obtain ⟨cx, cy⟩ := box_rules HCr.out
    by_cases hlt : p < 64
    · obtain ⟨v, hv⟩ : ∃ v : Int, (p : Int) = v := ⟨_, rfl⟩
      have hv0 : 0 ≤ v := by omega
      have hv1 : v < 64 := by omega
      rw [hv]
      have HV := Lib.hid hv
      clear hv
      go_wp2
      go_loopw [3, 14] (fun o ix wv => ∃ (i : Nat) (l : List Int) (P : Option Addr) (cp : Nat), i ≤ ts.length ∧ ix = .int .i64 i ∧ o = .slice P l.length cp ∧ Hid (l = ppK (ts.map (·.prio)) p ++ ((ts.map (·.prio)).take i).filter (fun y => y == v)) ∧
        Hid (wv.ownsRow (w.heap.size + 1) 3 1 (.slice P l.length cp) l.length (l.map (.int .i64))) ∧ Hid (wv.heap[w.heap.size]? = some (.cells #[.int .i64 mn, .int .i64 mx, .int .i64 sw, .slice A ts.length ca, .slice B ls.length cb, .slice D hs.length cd] 28 (0, 0))) ∧ Hid (Below w.heap.size w wv)) (fun _ ix _ => ts.length - (intOf ix).toNat)
      case atStart => exact ⟨0, l, P, cp, by omega, rfl, rfl, Lib.hid (by rw [HE.out]; simp), HOr, HCr, HBr⟩
      case round =>
        obtain ⟨i, l, P, cp, hi, rfl, rfl, HE2, HOv, HCv, HBv⟩ := hrel
        clear HE HOr HCr HBr cx cy
        by_cases hlt2 : i < ts.length
        · obtain ⟨a, x, rfl, hx, ⟨z0, z1, z2, z3⟩, z4, z5, z6, z7, z8, z9⟩ := (Ht.out.below HBv.out).tkAt hlt2
          have HS := Lib.hid (pf_step (ts.map (·.prio)) v (i := i) (by rw [List.length_map]; exact hlt2))
          have hg : (ts.map (·.prio)).getD i 0 = x.prio := by rw [← hx]; simp [List.getD, hlt2]
          rw [hg] at HS
          have hl5 : l.length ≤ 67108864 + 1048576 := by
            have h1 := HL.out p
            have h2 := List.length_filter_le (fun y => y == v) ((ts.map (·.prio)).take i)
            have h3 := List.length_take_le i (ts.map (·.prio))
            rw [HE2.out, List.length_append]
            have h4 : p * (ts.map (·.prio)).length ≤ 64 * 1048576 := Nat.mul_le_mul (by omega) (by rw [List.length_map]; exact hlt0)
            omega
          clear hx hg
          obtain ⟨x0, x1, x2, x3, x4, x5, x6, x7, x8, x9⟩ := x
          dsimp only at *
          go_upto_region 8 with fail
          refine name_world fun U hU => ?_
          have hbu : Below wr.heap.size wr U := by rw [hU]; exact (Below.refl _ _).alloc (Nat.le_refl _) _
          have HX : Hid (U.heap[wr.heap.size]? = some (.cells #[.int .u8 x0, .int .i64 x1, .int .i64 x2, .int .i64 x3, .int .i64 x4, .int .i64 x5, .int .i64 x6, .int .i64 x7, .int .i64 x8, .int .i64 x9] 43 (0, 0))) := Lib.hid (by rw [hU]; exact heap_alloc_new _ _)
          have HOu := Lib.hid (own_belowK HOv.out hbu)
          have HCu := Lib.hid (box_keep HCv.out hbu)
          have HBu := Lib.hid (HBv.out.trans (hbu.mono HBv.out.size))
          have lc := box_lt HCu.out
          clear hU hbu z0 z1 z2 z3 z4 z5 z6 z7 z8 z9 HOv HCv HBv
          generalize wr.heap.size = bx at *
          obtain ⟨xx, xy⟩ := box_rules HX.out
          by_cases he : x1 = v
          · rw [if_pos he] at HS
            have he2 : (x1 == v) = true := by simpa using he
            have HE3 : Hid (l ++ [v] = ppK (ts.map (·.prio)) p ++ ((ts.map (·.prio)).take (i + 1)).filter (fun y => y == v)) := Lib.hid (by rw [HS.out, HE2.out, List.append_assoc])
            clear HS HE2 he
            go_wp2_with (at_builtin; go_loud (refine wp_appK rfl _ _ skI (by decide) rfl (own_allocK HOu.out _) rfl (by omega) (by simp; omega) U.heap.size [.int .i64 v] rfl rfl (fun j u hu => new_cell hu) rfl ?_); intro P4 c4 w4 ho4 hg4 hat4; have S4 := Lib.hid (grown_step HOu.out hg4))
            refine ⟨⟨i + 1, l ++ [v], P4, c4, hlt2, by go_num, by rw [List.length_append]; rfl, HE3, Lib.hid ?_, Lib.hid (S4.out.low HCu.out (Nat.lt_succ_self _)), Lib.hid (S4.out.below HBu.out (by omega) HBu.out.size)⟩, ?_⟩
            · rw [List.length_append, List.map_append]; exact ho4
            · simp [intOf]; omega
          · rw [if_neg he] at HS
            have he2 : (x1 == v) = false := by simpa using he
            have HE3 : Hid (l = ppK (ts.map (·.prio)) p ++ ((ts.map (·.prio)).take (i + 1)).filter (fun y => y == v)) := Lib.hid (by rw [HS.out, HE2.out, List.append_nil])
            clear HS HE2 he
            go_wp2
            refine ⟨⟨i + 1, l, P, cp, hlt2, by go_num, rfl, HE3, HOu, HCu, HBu⟩, ?_⟩
            simp [intOf]; omega
        · obtain rfl : i = ts.length := by omega
          have HE3 : Hid (l = ppK (ts.map (·.prio)) (p + 1)) := Lib.hid (by rw [HE2.out, List.take_of_length_le (by simp), ← HV.out]; rfl)
          have hv9 : v + 1 = ((p + 1 : Nat) : Int) := by have := HV.out; omega
          have HV9 := Lib.hid hv9
          clear HE2 hv9
          go_wp2
          refine ⟨⟨p + 1, l, P, cp, hlt, by rw [HV9.out], rfl, HE3, HOv, HCv, HBv⟩, ?_⟩
          simp [intOf]; omega
    · obtain rfl : p = 64 := by omega
      obtain rfl : l = pp := by rw [HE.out, HPP.out]
      go_wp2
      go_ret
      exact ⟨P, cp, rfl, own_monoK HOr.out (by omega), HBr.out⟩
set_option maxHeartbeats 1000000 in
set_option maxRecDepth 100000 in
theorem order36r_any (mn mx sw : Int) (ts : List Tk) (ls : List Ln) (hs : List Th) (A : Option Addr) (ca : Nat) (B : Option Addr) (cb : Nat) (D : Option Addr) (cd : Nat) (w : World)
    (hlt0 : ts.length ≤ 1048576) (hll : ls.length ≤ 1048576) (hlh : hs.length ≤ 1048576)
    (ht : Rd w A (ts.flatMap tkc)) (hl : Rd w B (ls.flatMap lnc)) (hh : Rd w D (hs.flatMap thc)) (hmx : I64 mx) :
    Calls Tryz.prog 11 #[cfv mn mx sw A ts.length ca B ls.length cb D hs.length cd] w (RetOr (Cf.why ⟨mn, mx, sw, ts, ls, hs⟩) ts w) := by
  have c1 := Lib.hid (fun w ht hl hh => check27_cfg mn mx sw ts ls hs A ca B cb D cd w hlt0 hll hlh ht hl hh hmx)
  have Ht := Lib.hid ht; have Hl := Lib.hid hl; have Hh := Lib.hid hh
  have HEq : Hid (Cf.why ⟨mn, mx, sw, ts, ls, hs⟩ = 0 → ooK (prK ts) ts.length 64 = ordL ts) := Lib.hid (fun h => by
    have hc := cfIn_of h
    have hnd := hc.nodup
    unfold Cf.prios at hnd
    exact order36_eq (fun t htm => (hc.ts t htm).prio) (List.nodup_append.1 hnd).1)
  have HOl := Lib.hid (ord_len ts)
  have HL := Lib.hid (fun n => oo_len (prK ts) ts.length n)
  clear ht hl hh
  generalize hyy : Cf.why ⟨mn, mx, sw, ts, ls, hs⟩ = y at *
  clear hyy
  unfold RetOr cfv at *
  go_enter Tryz.func11, Tryz.ntmps11
  go_upto_region 1 with fail
  refine name_world fun W hW => ?_
  have HC : Hid (W.heap[w.heap.size]? = some (.cells #[.int .i64 mn, .int .i64 mx, .int .i64 sw, .slice A ts.length ca, .slice B ls.length cb, .slice D hs.length cd] 28 (0, 0))) := Lib.hid (by rw [hW]; exact heap_alloc_new w _)
  have HB : Hid (Below w.heap.size w W) := Lib.hid (by rw [hW]; exact (Below.refl _ _).alloc (Nat.le_refl _) _)
  clear hW
  obtain ⟨cx, cy⟩ := box_rules HC.out
  go_wp2_with fail
  refine (c1.out _ (Ht.out.below HB.out) (Hl.out.below HB.out) (Hh.out.below HB.out)).mono ?_
  rintro e w1 ⟨rfl, hb⟩
  have HB1 := Lib.hid (HB.out.trans (hb.mono HB.out.size))
  have HC1 := Lib.hid (box_keep HC.out hb)
  clear hb HC HB c1 cx cy
  by_cases hy : y = 0
  · subst hy
    have HEq2 := Lib.hid (HEq.out rfl)
    clear HEq
    have HO : Hid (w1.ownsRow (w.heap.size + 1) 3 1 (.slice none ([] : List Nat).length 0) ([] : List Nat).length (([] : List Nat).map fun i : Nat => .int .i64 (i : Int))) := Lib.hid (own_nilK _ _ _ _)
    go_wp2
    go_loopw [5, 6] (fun o pi wr => ∃ (p : Nat) (l : List Nat) (P : Option Addr) (cp : Nat), p ≤ 64 ∧ pi = .int .i64 (63 - (p : Int)) ∧ o = .slice P l.length cp ∧ Hid (l = ooK (prK ts) ts.length p) ∧
      Hid (wr.ownsRow (w.heap.size + 1) 3 1 (.slice P l.length cp) l.length (l.map fun i : Nat => .int .i64 (i : Int))) ∧ Hid (wr.heap[w.heap.size]? = some (.cells #[.int .i64 mn, .int .i64 mx, .int .i64 sw, .slice A ts.length ca, .slice B ls.length cb, .slice D hs.length cd] 28 (0, 0))) ∧ Hid (Below w.heap.size w wr)) (fun _ pi _ => (intOf pi + 1).toNat)
    case atStart => exact ⟨0, [], none, 0, by omega, rfl, rfl, Lib.hid rfl, HO, HC1, HB1⟩
    case round =>
      obtain ⟨p, l, P, cp, hp, rfl, rfl, HE, HOr, HCr, HBr⟩ := hrel
      clear HO HC1 HB1
      obtain ⟨cx, cy⟩ := box_rules HCr.out
      by_cases hlt : p < 64
      · obtain ⟨v, hv⟩ : ∃ v : Int, 63 - (p : Int) = v := ⟨_, rfl⟩
        have hv0 : 0 ≤ v := by omega
        have hv1 : v ≤ 63 := by omega
        rw [hv]
        have HV := Lib.hid hv
        clear hv
        go_wp2
        go_loopw [5, 21] (fun o ix wv => ∃ (i : Nat) (l : List Nat) (P : Option Addr) (cp : Nat), i ≤ ts.length ∧ ix = .int .i64 i ∧ o = .slice P l.length cp ∧ Hid (l = ooK (prK ts) ts.length p ++ (List.range i).filter (fun j => prK ts j == v)) ∧
          Hid (wv.ownsRow (w.heap.size + 1) 3 1 (.slice P l.length cp) l.length (l.map fun i : Nat => .int .i64 (i : Int))) ∧ Hid (wv.heap[w.heap.size]? = some (.cells #[.int .i64 mn, .int .i64 mx, .int .i64 sw, .slice A ts.length ca, .slice B ls.length cb, .slice D hs.length cd] 28 (0, 0))) ∧ Hid (Below w.heap.size w wv)) (fun _ ix _ => ts.length - (intOf ix).toNat)
        case atStart => exact ⟨0, l, P, cp, by omega, rfl, rfl, Lib.hid (by rw [HE.out]; simp), HOr, HCr, HBr⟩
        case round =>
          obtain ⟨i, l, P, cp, hi, rfl, rfl, HE2, HOv, HCv, HBv⟩ := hrel
          clear HE HOr HCr HBr cx cy
          by_cases hlt2 : i < ts.length
          · obtain ⟨a, x, rfl, hx, ⟨z0, z1, z2, z3⟩, z4, z5, z6, z7, z8, z9⟩ := (Ht.out.below HBv.out).tkAt hlt2
            have HS := Lib.hid (of_step (prK ts) v i)
            have hg : prK ts i = x.prio := by unfold prK; rw [hx]
            have hl5 : l.length ≤ 67108864 + 1048576 := by
              have h1 := HL.out p
              have h2 := List.length_filter_le (fun j => prK ts j == v) (List.range i)
              rw [HE2.out, List.length_append]
              rw [List.length_range] at h2
              have h4 : p * ts.length ≤ 64 * 1048576 := Nat.mul_le_mul (by omega) hlt0
              omega
            rw [hg] at HS
            clear hx hg
            obtain ⟨x0, x1, x2, x3, x4, x5, x6, x7, x8, x9⟩ := x
            dsimp only at *
            go_upto_region 11 with fail
            refine name_world fun U hU => ?_
            have hbu : Below wr.heap.size wr U := by rw [hU]; exact (Below.refl _ _).alloc (Nat.le_refl _) _
            have HX : Hid (U.heap[wr.heap.size]? = some (.cells #[.int .u8 x0, .int .i64 x1, .int .i64 x2, .int .i64 x3, .int .i64 x4, .int .i64 x5, .int .i64 x6, .int .i64 x7, .int .i64 x8, .int .i64 x9] 43 (0, 0))) := Lib.hid (by rw [hU]; exact heap_alloc_new _ _)
            have HOu := Lib.hid (own_belowK HOv.out hbu)
            have HCu := Lib.hid (box_keep HCv.out hbu)
            have HBu := Lib.hid (HBv.out.trans (hbu.mono HBv.out.size))
            have lc := box_lt HCu.out
            clear hU hbu z0 z1 z2 z3 z4 z5 z6 z7 z8 z9 HOv HCv HBv
            generalize wr.heap.size = bx at *
            obtain ⟨xx, xy⟩ := box_rules HX.out
            by_cases he : x1 = v
            · rw [if_pos he] at HS
              have he2 : (x1 == v) = true := by simpa using he
              have HE3 : Hid (l ++ [i] = ooK (prK ts) ts.length p ++ (List.range (i + 1)).filter (fun j => prK ts j == v)) := Lib.hid (by rw [HS.out, HE2.out, List.append_assoc])
              clear HS HE2 he
              go_wp2_with (at_builtin; go_loud (refine wp_appK rfl _ _ skI (by decide) rfl (own_allocK HOu.out _) rfl (by omega) (by simp; omega) U.heap.size [.int .i64 (i : Int)] rfl rfl (fun j u hu => new_cell hu) rfl ?_); intro P4 c4 w4 ho4 hg4 hat4; have S4 := Lib.hid (grown_step HOu.out hg4))
              refine ⟨⟨i + 1, l ++ [i], P4, c4, hlt2, by go_num, by rw [List.length_append]; rfl, HE3, Lib.hid ?_, Lib.hid (S4.out.low HCu.out (Nat.lt_succ_self _)), Lib.hid (S4.out.below HBu.out (by omega) HBu.out.size)⟩, ?_⟩
              · rw [List.length_append, List.map_append]; exact ho4
              · simp [intOf]; omega
            · rw [if_neg he] at HS
              have he2 : (x1 == v) = false := by simpa using he
              have HE3 : Hid (l = ooK (prK ts) ts.length p ++ (List.range (i + 1)).filter (fun j => prK ts j == v)) := Lib.hid (by rw [HS.out, HE2.out, List.append_nil])
              clear HS HE2 he
              go_wp2
              refine ⟨⟨i + 1, l, P, cp, hlt2, by go_num, rfl, HE3, HOu, HCu, HBu⟩, ?_⟩
              simp [intOf]; omega
          · obtain rfl : i = ts.length := by omega
            have HE3 : Hid (l = ooK (prK ts) ts.length (p + 1)) := Lib.hid (by rw [HE2.out, ← HV.out]; rfl)
            have hv9 : v - 1 = 63 - ((p + 1 : Nat) : Int) := by have := HV.out; omega
            have HV9 := Lib.hid hv9
            clear HE2 hv9
            go_wp2
            refine ⟨⟨p + 1, l, P, cp, hlt, by rw [HV9.out], rfl, HE3, HOv, HCv, HBv⟩, ?_⟩
            simp [intOf]; omega
      · obtain rfl : p = 64 := by omega
        have HE2 := HE.out
        rw [HEq2.out] at HE2
        subst HE2
        have hd : (63 : Int) - ((64 : Nat) : Int) = -1 := rfl
        rw [hd]
        go_wp2
        refine bodyPost_ret (v := .tuple #[.slice P (ordL ts).length cp, .int .i64 0]) (by simp [results, Tryz.f11, go_sem]) rfl ?_
        rw [HOl.out] at HOr
        refine ⟨⟨P, cp, by rw [HOl.out], own_monoK HOr.out (by omega)⟩, HBr.out⟩
  · have hy2 : (y != 0) = true := by simpa using hy
    have HY := Lib.hid hy
    clear hy HEq
    go_wp2
    refine bodyPost_ret (v := .tuple #[.slice none 0 0, .int .i64 y]) (by simp [results, Tryz.f11, go_sem]) rfl ?_
    exact ⟨fun _ => rfl, fun h => absurd h HY.out, HB1.out⟩
end Go.Proofs.YtgampofpabllbaaGreat
/- vergeref36: the walks of With, tried. Conditions: lists that read. -/
namespace Go.Proofs.YtgampofpabllbaaGreat
open Go.RowKit Go.Shelf
attribute [local go_sem] Oper.semAt_some

theorem skI' : SlK Tryz.prog 29 3 1 8 := SlK.mk' (z := .int .i64 0) Tryz.underlying29 (by kernel_rfl) rfl (by decide)
theorem WiI.drewN {mn mx sw : Int} {nt nl nh bd base br : Nat} {A2 : Option Addr} {c2 : Nat} {B2 : Option Addr} {d2 : Nat} {D2 : Option Addr} {e2 : Nat} {w : World} {T : List Tk} {L : List Ln} {H : List Th} {wx : World}
    (h : WiI mn mx sw nt nl nh bd base br A2 c2 B2 d2 D2 e2 w T L H wx) (n : Nat) : WiI mn mx sw nt nl nh bd base br A2 c2 B2 d2 D2 e2 w T L H (wx.drewN n) := ⟨h.boxd, h.boxr, h.o1, h.o2, h.o3, bdrewN h.low n, h.bl⟩
set_option maxHeartbeats 4000000 in
set_option maxRecDepth 100000 in
theorem with36r_any (mn mx sw : Int) (ts : List Tk) (ls : List Ln) (hs : List Th) (A : Option Addr) (ca : Nat) (B : Option Addr) (cb : Nat) (D : Option Addr) (cd : Nat) (q : List Int) (Q : Option Addr) (cq : Nat) (w : World)
    (hlt0 : ts.length ≤ 1048576) (hll : ls.length ≤ 1048576) (hlh : hs.length ≤ 1048576) (hlq : q.length ≤ 1048576)
    (ht : Rd w A (ts.flatMap tkc)) (hl : Rd w B (ls.flatMap lnc)) (hh : Rd w D (hs.flatMap thc)) (hq : Rd w Q (q.map (.int .i64))) :
    Calls Tryz.prog 13 #[cfv mn mx sw A ts.length ca B ls.length cb D hs.length cd, .slice Q q.length cq] w (RetWi (if q.length = ts.length then 0 else 2) mn mx sw ts.length ls.length hs.length (putP ts q) ls hs w) := by
  have c1 := Lib.hid (fun w ht hl hh => copy26_any mn mx sw ts ls hs A ca B cb D cd w hlt0 hll hlh ht hl hh)
  have Ht := Lib.hid ht; have Hl := Lib.hid hl; have Hh := Lib.hid hh; have Hq := Lib.hid hq
  clear ht hl hh hq
  unfold RetCy at c1
  have hz : Hid (∀ (a : Array Value), a.size = 6 → a.size = 6) := Lib.hid fun _ h => h
  clear hz
  by_cases hn : q.length = ts.length
  · rw [if_pos hn]
    have HFin : Hid (∀ e w', (∃ (A : Option Addr) (ca : Nat) (B : Option Addr) (cb : Nat) (D : Option Addr) (cd : Nat), e = .returned (.tuple #[cfv mn mx sw A ts.length ca B ls.length cb D hs.length cd, .int .i64 0]) ∧
      w'.ownsRow w.heap.size 43 10 (.slice A ts.length ca) ts.length ((putP ts q).flatMap tkc) ∧ w'.ownsRow w.heap.size 58 4 (.slice B ls.length cb) ls.length (ls.flatMap lnc) ∧ w'.ownsRow w.heap.size 60 4 (.slice D hs.length cd) hs.length (hs.flatMap thc) ∧ Below w.heap.size w w') → RetWi 0 mn mx sw ts.length ls.length hs.length (putP ts q) ls hs w e w') :=
      Lib.hid (fun e w' ⟨A, ca, B, cb, D, cd, h1, h2, h3, h4, h5⟩ => ⟨fun h => absurd rfl h, fun _ => ⟨A, ca, B, cb, D, cd, h1, h2, h3, h4⟩, h5⟩)
    generalize RetWi 0 mn mx sw ts.length ls.length hs.length (putP ts q) ls hs w = RW at *
    have hn2 : ((q.length : Int) != (ts.length : Int)) = false := by simp [hn]
    have HN := Lib.hid hn
    clear hn
    unfold cfv at *
    go_enter Tryz.func13, Tryz.ntmps13
    go_upto_region 1 with fail
    refine name_world fun W hW => ?_
    have HC : Hid (W.heap[w.heap.size]? = some (.cells #[.int .i64 mn, .int .i64 mx, .int .i64 sw, .slice A ts.length ca, .slice B ls.length cb, .slice D hs.length cd] 28 (0, 0))) := Lib.hid (by rw [hW]; exact box_alloc (heap_alloc_new w _) _)
    have HZ : Hid (W.heap[w.heap.size + 1]? = some (.cells #[.int .i64 0, .int .i64 0, .int .i64 0, .slice none 0 0, .slice none 0 0, .slice none 0 0] 28 (0, 0))) := Lib.hid (by rw [hW]; exact heap_new_at _ (by simp))
    have HB : Hid (Below w.heap.size w W) := Lib.hid (by rw [hW]; exact ((Below.refl _ _).alloc (Nat.le_refl _) _).alloc (by simp) _)
    have sW : W.heap.size = w.heap.size + 2 := by rw [hW]; simp
    obtain ⟨cx, cy⟩ := box_rules HC.out
    clear hW
    go_wp2_with fail
    refine (c1.out _ (Ht.out.below HB.out) (Hl.out.below HB.out) (Hh.out.below HB.out)).mono ?_
    rintro e w1 ⟨A1, a1, B1, b1, D1, d1, rfl, ho1, ho2, ho3, hb⟩
    go_upto_region 4 with fail
    refine name_world fun V hV => ?_
    have HI : Hid (WiI mn mx sw ts.length ls.length hs.length w1.heap.size W.heap.size (w.heap.size + 1) A1 a1 B1 b1 D1 d1 w ts ls hs V) := Lib.hid (by
      rw [hV]
      exact ⟨heap_alloc_new _ _, box_alloc (box_keep HZ.out hb) _, own_allocK ho1 _, own_allocK ho2 _, own_allocK ho3 _, (HB.out.trans (hb.mono HB.out.size)).alloc (by have := HB.out.size; have := hb.size; omega) _, by omega, by omega, by omega⟩)
    clear hV hb ho1 ho2 ho3 cx cy HC HZ HB c1 Ht Hl Hh
    have lq : w1.heap.size < V.heap.size := box_lt HI.out.boxd
    generalize w1.heap.size = bd at *
    generalize W.heap.size = base at *
    go_wp2
    go_loopw [19] (fun i wr => ∃ k : Nat, k ≤ q.length ∧ i = .int .i64 k ∧ Hid (WiI mn mx sw ts.length ls.length hs.length bd base (w.heap.size + 1) A1 a1 B1 b1 D1 d1 w (pK ts q k) ls hs wr)) (fun i _ => q.length - (intOf i).toNat)
    case atStart => exact ⟨0, by omega, rfl, HI⟩
    case round =>
      obtain ⟨k, hk, rfl, HIr⟩ := hrel
      by_cases hlt : k < q.length
      · obtain ⟨aq, rfl, gq⟩ := (Hq.out.below HIr.out.low).int hlt
        have hkt : k < (pK ts q k).length := by rw [pK_len, ← HN.out]; exact hlt
        have hkt2 : k < ts.length := by rw [← HN.out]; exact hlt
        obtain ⟨a, x, rfl, hx, ⟨-, z1, -, -⟩, -⟩ := (own_rdK HIr.out.o1).tkAt hkt
        have fz := own_froz HIr.out.o1 (k * 10) 1
        obtain ⟨dx, dy⟩ := box_rules HIr.out.boxd
        have Hf := Lib.hid (HIr.out.put hkt (q.getD k 0))
        generalize hv : q.getD k 0 = v at *
        have HV := Lib.hid hv
        clear hv hx
        go_upto_region 7 with fail
        refine still_tail 9 (by kernel_rfl) (by kernel_rfl) ?_
        simp only [List.take_succ_cons, List.take_zero, List.drop_succ_cons, List.drop_zero]
        repeat still_step
        refine wpStill_nil ?_
        go_wp2_with fail
        refine ⟨⟨k + 1, by omega, by go_num, Lib.hid ?_⟩, ?_⟩
        · show WiI _ _ _ _ _ _ _ _ _ _ _ _ _ _ _ _ ((pK ts q k).set k { (pK ts q k).getD k tk0 with prio := q.getD k 0 }) _ _ _
          rw [HV.out]
          exact Hf.out.drewN 1
        · simp [intOf]; omega
      · obtain rfl : k = q.length := by omega
        obtain ⟨dx, dy⟩ := box_rules HIr.out.boxd
        obtain ⟨zx, zy⟩ := box_rules HIr.out.boxr
        go_wp2
        have h4 := box_set (i := 5) (box_set (i := 4) (box_set (i := 3) (box_set (i := 2) (box_set (i := 1) (box_set (i := 0) HIr.out.boxr (.int .i64 mn)) (.int .i64 mx)) (.int .i64 sw)) (.slice A1 ts.length a1)) (.slice B1 ls.length b1)) (.slice D1 hs.length d1)
        have hz := (box_rules h4).1
        refine bodyPost_ret (v := .tuple #[.agg #[.int .i64 mn, .int .i64 mx, .int .i64 sw, .slice A1 ts.length a1, .slice B1 ls.length b1, .slice D1 hs.length d1], .int .i64 0]) (by simp [results, Tryz.f13, go_sem, hz]) rfl ?_
        have lz := HIr.out.bl.2.1
        have lw := HIr.out.bl.2.2
        have eP : pK ts q q.length = putP ts q := by unfold putP; rw [HN.out]
        refine HFin.out _ _ ⟨A1, a1, B1, b1, D1, d1, rfl, ?_, ?_, ?_, ?_⟩
        · rw [← eP]
          refine own_monoK (base := base) ?_ (by omega)
          repeat (with_reducible first | exact HIr.out.o1 | refine own_setK ?_ (own_low HIr.out.o1 lz) _)
        · refine own_monoK (base := base) ?_ (by omega)
          repeat (with_reducible first | exact HIr.out.o2 | refine own_setK ?_ (own_low HIr.out.o2 lz) _)
        · refine own_monoK (base := base) ?_ (by omega)
          repeat (with_reducible first | exact HIr.out.o3 | refine own_setK ?_ (own_low HIr.out.o3 lz) _)
        · repeat (with_reducible first | exact HIr.out.low | refine Below.setCell ?_ lw _)
  · rw [if_neg hn]
    have hn2 : ((q.length : Int) != (ts.length : Int)) = true := by simp; omega
    unfold cfv at *
    go_enter Tryz.func13, Tryz.ntmps13
    go_wp2
    refine bodyPost_ret (v := .tuple #[.agg #[.int .i64 0, .int .i64 0, .int .i64 0, .slice none 0 0, .slice none 0 0, .slice none 0 0], .int .i64 2]) (by simp [results, Tryz.f13, go_sem]) rfl ?_
    exact ⟨fun _ => rfl, fun h => (by cases h), ((Below.refl _ _).alloc (Nat.le_refl _) _).alloc (by simp) _⟩
theorem drop_cons' {g : List Int} {k : Nat} (h : k < g.length) : g.drop k = g.getD k 0 :: g.drop (k + 1) := by
  have e : g.getD k 0 = g[k] := by simp [List.getD, h]
  rw [e]; exact List.drop_eq_getElem_cons h
/-- One step of a trial. -/
theorem trG_step' {pl q g : List Int} {m i k j : Nat} (hk : k < g.length) (hq : k < q.length) (h : trG pl m i k j (g.drop k) = q.drop k) :
    (k = i → q.getD k 0 = pl.getD m 0 ∧ trG pl m i (k + 1) j (g.drop (k + 1)) = q.drop (k + 1)) ∧
    (k ≠ i → g.getD k 0 = -1 → q.getD k 0 = pl.getD j 0 ∧ trG pl m i (k + 1) (j + 1) (g.drop (k + 1)) = q.drop (k + 1)) ∧
    (k ≠ i → g.getD k 0 ≠ -1 → q.getD k 0 = g.getD k 0 ∧ trG pl m i (k + 1) j (g.drop (k + 1)) = q.drop (k + 1)) := by
  rw [drop_cons' hk, drop_cons' hq] at h
  unfold trG at h
  refine ⟨fun h1 => ?_, fun h1 h2 => ?_, fun h1 h2 => ?_⟩
  · rw [if_pos h1] at h
    injection h with a b
    exact ⟨a.symm, b⟩
  · rw [if_neg h1, if_pos h2] at h
    injection h with a b
    exact ⟨a.symm, b⟩
  · rw [if_neg h1, if_neg h2] at h
    injection h with a b
    exact ⟨a.symm, b⟩
theorem fits_step' {n i k j : Nat} {g : List Int} (hk : k < g.length) (hf : Fits n i k j (g.drop k)) :
    (k = i → Fits n i (k + 1) j (g.drop (k + 1))) ∧ (k ≠ i → g.getD k 0 = -1 → j < n ∧ Fits n i (k + 1) (j + 1) (g.drop (k + 1))) ∧ (k ≠ i → g.getD k 0 ≠ -1 → Fits n i (k + 1) j (g.drop (k + 1))) := by
  rw [drop_cons' hk] at hf
  generalize g.getD k 0 = p at *
  generalize g.drop (k + 1) = g' at *
  have hop : opens (p :: g') = (if p = -1 then 1 else 0) + opens g' := rfl
  rw [Fits, hop] at hf
  refine ⟨fun h1 => ?_, fun h1 h2 => ?_, fun h1 h2 => ?_⟩
  · rcases hf with ⟨f1, f2, f3, f4⟩ | ⟨f1, f2⟩
    · subst h1
      rw [Nat.sub_self] at f3
      have f5 : p = -1 := f3
      rw [if_pos f5] at f4
      exact .inr ⟨by omega, by omega⟩
    · omega
  · rw [if_pos h2] at hf
    rcases hf with ⟨f1, f2, f3, f4⟩ | ⟨f1, f2⟩
    · rw [show i - k = (i - (k + 1)) + 1 by omega] at f3
      have f3' : g'.getD (i - (k + 1)) 0 = -1 := f3
      rw [List.length_cons] at f2
      have h7 : opens g' ≠ 0 := fun e => opens_none e (show i - (k + 1) < g'.length by omega) f3'
      exact ⟨by omega, .inl ⟨by omega, by omega, f3', by omega⟩⟩
    · exact ⟨by omega, .inr ⟨by omega, by omega⟩⟩
  · rw [if_neg h2] at hf
    rcases hf with ⟨f1, f2, f3, f4⟩ | ⟨f1, f2⟩
    · rw [show i - k = (i - (k + 1)) + 1 by omega] at f3
      rw [List.length_cons] at f2
      exact .inl ⟨by omega, by omega, f3, by omega⟩
    · exact .inr ⟨by omega, by omega⟩
theorem own_at' {w : World} {base : Nat} {e : TypeId} {k n c : Nat} {a : Addr} {vs : List Value} (h : w.ownsRow base e k (.slice (some a) n c) n vs) (m : Nat) : (⟨(a.add m).block, (a.add m).off + 0, none⟩ : Addr) = a.add m := by
  rcases h.2 with ⟨h1, _⟩ | ⟨g, cap, cur, h1, h2, h3, _⟩
  · cases h1
  · injection h1 with h1
    injection h1 with h1
    subst h1
    rw [add_zero_lit]
    rfl

/-- What a trial's memory holds. -/
structure TrI (mn mx sw : Int) (nt nl nh bc base : Nat) (A : Option Addr) (ca : Nat) (B : Option Addr) (cb : Nat) (D : Option Addr) (cd : Nat) (R2 : Option Addr) (n c2 : Nat) (w : World) (R : List Int) (wx : World) : Prop where
  boxc : wx.heap[bc]? = some (.cells #[.int .i64 mn, .int .i64 mx, .int .i64 sw, .slice A nt ca, .slice B nl cb, .slice D nh cd] 28 (0, 0))
  boxz : wx.heap[bc + 1]? = some (.cells #[.int .i64 0, .int .i64 0, .int .i64 0, .slice none 0 0, .slice none 0 0, .slice none 0 0] 28 (0, 0))
  row : wx.ownsRow base 3 1 (.slice R2 n c2) n (R.map (.int .i64))
  low : Below w.heap.size w wx
  bl : bc = w.heap.size ∧ w.heap.size + 2 ≤ base
theorem TrI.put {mn mx sw : Int} {nt nl nh bc base n : Nat} {A : Option Addr} {ca : Nat} {B : Option Addr} {cb : Nat} {D : Option Addr} {cd : Nat} {a : Addr} {c2 : Nat} {w : World} {R : List Int} {wx : World}
    (h : TrI mn mx sw nt nl nh bc base A ca B cb D cd (some a) n c2 w R wx) (k : Nat) (v : Int) : TrI mn mx sw nt nl nh bc base A ca B cb D cd (some a) n c2 w (R.set k v) (wx.setCell (a.add k) (.int .i64 v)) := by
  obtain ⟨b1, b2⟩ := own_blk h.row k
  have hb := h.bl
  refine ⟨box_far h.boxc (p := a.add k) (by omega) _, box_far h.boxz (p := a.add k) (by omega) _, ?_, h.low.setCell (p := a.add k) (by omega) _, hb⟩
  have hp := own_put h.row k 0 (.int .i64 v)
  rw [own_at' h.row, Nat.add_zero] at hp
  rw [List.map_set]
  exact hp
theorem TrI.below {mn mx sw : Int} {nt nl nh bc base n : Nat} {A : Option Addr} {ca : Nat} {B : Option Addr} {cb : Nat} {D : Option Addr} {cd : Nat} {R2 : Option Addr} {c2 : Nat} {w : World} {R : List Int} {wx w3 : World}
    (h : TrI mn mx sw nt nl nh bc base A ca B cb D cd R2 n c2 w R wx) (hb : Below wx.heap.size wx w3) : TrI mn mx sw nt nl nh bc base A ca B cb D cd R2 n c2 w R w3 :=
  ⟨box_keep h.boxc hb, box_keep h.boxz hb, own_belowK h.row hb, h.low.trans (hb.mono h.low.size), h.bl⟩
/-- What a trial hands back. -/
def RetTr (mn mx sw : Int) (nt nl nh : Nat) (T : List Tk) (L : List Ln) (H : List Th) (w : World) (e : Ending) (w' : World) : Prop :=
  ∃ (A : Option Addr) (ca : Nat) (B : Option Addr) (cb : Nat) (D : Option Addr) (cd : Nat), e = .returned (cfv mn mx sw A nt ca B nl cb D nh cd) ∧
    w'.ownsRow w.heap.size 43 10 (.slice A nt ca) nt (T.flatMap tkc) ∧ w'.ownsRow w.heap.size 58 4 (.slice B nl cb) nl (L.flatMap lnc) ∧ w'.ownsRow w.heap.size 60 4 (.slice D nh cd) nh (H.flatMap thc) ∧ Below w.heap.size w w'
theorem opens_all {g : List Int} {c m n : Nat} (h : opens (g.take g.length) + c = g.length) (h2 : opens g + m = n) (h3 : g.length = n) : c = m := by
  rw [List.take_length] at h; omega
theorem set_get {R : List Int} {k j : Nat} {v : Int} (h : k < R.length) : (R.set k v).getD j 0 = if j = k then v else R.getD j 0 := by
  by_cases e : j = k
  · subst e; rw [if_pos rfl, getD_set_eq h]
  · rw [if_neg e, getD_set_ne (fun h => e h.symm)]
/-- How far the places of a trial are put. -/
def PutK (R q s : List Int) (k : Nat) : Prop := R.length = s.length ∧ (∀ j, j < k → R.getD j 0 = q.getD j 0) ∧ ∀ j, k ≤ j → R.getD j 0 = s.getD j 0
theorem PutK.start (q s : List Int) : PutK s q s 0 := ⟨rfl, fun _ h => absurd h (Nat.not_lt_zero _), fun _ _ => rfl⟩
theorem PutK.skip {R q s : List Int} {k : Nat} (h : PutK R q s k) (e : s.getD k 0 = q.getD k 0) : PutK R q s (k + 1) := by
  refine ⟨h.1, fun j hj => ?_, fun j hj => h.2.2 j (by omega)⟩
  by_cases e2 : j = k
  · subst e2; rw [h.2.2 j (Nat.le_refl _), e]
  · exact h.2.1 j (by omega)
theorem PutK.put {R q s : List Int} {k : Nat} (h : PutK R q s k) (hk : k < s.length) : PutK (R.set k (q.getD k 0)) q s (k + 1) := by
  have hk' : k < R.length := by rw [h.1]; exact hk
  refine ⟨by rw [List.length_set, h.1], fun j hj => ?_, fun j hj => ?_⟩
  · rw [set_get hk']
    by_cases e : j = k
    · rw [if_pos e, e]
    · rw [if_neg e]; exact h.2.1 j (by omega)
  · rw [set_get hk', if_neg (by omega)]
    exact h.2.2 j (by omega)
theorem PutK.done {R q s : List Int} {n : Nat} (h : PutK R q s n) (hs : s.length = n) (hq : q.length = n) : R = q :=
  list_ext_getD (d := 0) (by rw [h.1, hs, hq]) fun k hk => h.2.1 k (by rw [h.1, hs] at hk; exact hk)
set_option maxHeartbeats 4000000 in
set_option maxRecDepth 100000 in
theorem tried36_any (mn mx sw : Int) (ts : List Tk) (ls : List Ln) (hs : List Th) (A : Option Addr) (ca : Nat) (B : Option Addr) (cb : Nat) (D : Option Addr) (cd : Nat) (pl g : List Int) (P : Option Addr) (cp : Nat) (G : Option Addr) (cg m i : Nat) (w : World)
    (hlt0 : ts.length ≤ 1048576) (hll : ls.length ≤ 1048576) (hlh : hs.length ≤ 1048576) (hpl : pl.length = ts.length) (hgl : g.length = ts.length) (hop : opens g + m = ts.length)
    (hv : ∀ j, j < ts.length → g.getD j 0 = -1 ∨ 0 ≤ g.getD j 0) (hp : ∀ j, j < ts.length → 0 ≤ pl.getD j 0) (hi : i < ts.length) (hgi : g.getD i 0 = -1)
    (ht : Rd w A (ts.flatMap tkc)) (hl : Rd w B (ls.flatMap lnc)) (hh : Rd w D (hs.flatMap thc)) (hP : Rd w P (pl.map (.int .i64))) (hG : Rd w G (g.map (.int .i64))) :
    Calls Tryz.prog 25 #[cfv mn mx sw A ts.length ca B ls.length cb D hs.length cd, .slice P pl.length cp, .slice G g.length cg, .int .i64 (i : Int)] w (RetTr mn mx sw ts.length ls.length hs.length (putP ts (tryP pl m i g)) ls hs w) := by
  have hm : m < ts.length := by
    have h0 : opens g ≠ 0 := fun e => opens_none e (by rw [hgl]; exact hi) hgi
    omega
  have hql : (tryP pl m i g).length = ts.length := by rw [tryP_len, hgl]
  obtain ⟨ag, rfl, -⟩ := hG.int (show i < g.length by rw [hgl]; exact hi)
  have c9 := Lib.hid (fun R2 c2 w a1 a2 a3 a4 => with36r_any mn mx sw ts ls hs A ca B cb D cd (tryP pl m i g) R2 c2 w hlt0 hll hlh (by rw [hql]; exact hlt0) a1 a2 a3 a4)
  rw [if_pos hql, tryP_len] at c9
  have Ht := Lib.hid ht; have Hl := Lib.hid hl; have Hh := Lib.hid hh; have HP := Lib.hid hP; have HG := Lib.hid hG
  have HTry : Hid (trG pl m i 0 (m + 1) (g.drop 0) = (tryP pl m i g).drop 0) := Lib.hid rfl
  have HF0 : Hid (Fits ts.length i 0 (m + 1) (g.drop 0)) := Lib.hid (.inl ⟨Nat.zero_le _, by rw [List.drop_zero, Nat.zero_add, hgl]; exact hi, hgi, by rw [List.drop_zero]; omega⟩)
  have HV := Lib.hid hv; have HPv := Lib.hid hp
  have HGl := Lib.hid hgl; have HPl := Lib.hid hpl; have HOp := Lib.hid hop; have HQl := Lib.hid hql; have HGi := Lib.hid hgi
  have HSl : Hid ((g.set i (pl.getD m 0)).length = ts.length) := Lib.hid (by rw [List.length_set, hgl])
  have HSv : Hid (∀ j, (g.set i (pl.getD m 0)).getD j 0 = if j = i then pl.getD m 0 else g.getD j 0) := Lib.hid (fun j => set_get (by rw [hgl]; exact hi))
  have hgle : g.length ≤ 1048576 := by omega
  have hple : pl.length ≤ 1048576 := by omega
  clear ht hl hh hP hG hv hp hop hpl hql hgl hgi
  generalize tryP pl m i g = q at *
  unfold RetWi at c9
  unfold RetTr cfv at *
  go_enter Tryz.func25, Tryz.ntmps25
  go_upto_region 1 with fail
  refine name_world fun W hW => ?_
  have HC : Hid (W.heap[w.heap.size]? = some (.cells #[.int .i64 mn, .int .i64 mx, .int .i64 sw, .slice A ts.length ca, .slice B ls.length cb, .slice D hs.length cd] 28 (0, 0))) := Lib.hid (by rw [hW]; exact box_alloc (heap_alloc_new w _) _)
  have HZ : Hid (W.heap[w.heap.size + 1]? = some (.cells #[.int .i64 0, .int .i64 0, .int .i64 0, .slice none 0 0, .slice none 0 0, .slice none 0 0] 28 (0, 0))) := Lib.hid (by rw [hW]; exact heap_new_at _ (by simp))
  have HB : Hid (Below w.heap.size w W) := Lib.hid (by rw [hW]; exact ((Below.refl _ _).alloc (Nat.le_refl _) _).alloc (by simp) _)
  have HsW : Hid (W.heap.size = w.heap.size + 2) := Lib.hid (by rw [hW]; simp)
  clear hW
  go_wp2_with (at_builtin; go_loud (refine wp_appNK rfl _ _ skI' (by decide) rfl (own_emptyK W 3 (k := 1) (Nat.le_refl _)) rfl (by simp) (some ag) g.length cg (g.map (.int .i64)) rfl (by simp) ((HG.out.below HB.out).alloc _) (ints_one _) (by omega) ?_); intro R2 c2 w1 ho1 hb1; rw [List.nil_append, Nat.zero_add] at ho1; rw [Nat.zero_add])
  have hb2 := ((Below.refl _ _).alloc (Nat.le_refl _) (.cells #[] 3)).trans hb1
  have HI : Hid (TrI mn mx sw ts.length ls.length hs.length w.heap.size W.heap.size A ca B cb D cd R2 g.length c2 w g w1) := Lib.hid ⟨box_keep HC.out hb2, box_keep HZ.out hb2, ho1, HB.out.trans (hb2.mono HB.out.size), rfl, by rw [HsW.out]; exact Nat.le_refl _⟩
  clear hb1 hb2 ho1 HC HZ HB HsW
  generalize W.heap.size = base at *
  go_loop [10, 20] (fun at' ix => ∃ (k c : Nat), k ≤ g.length ∧ ix = .int .i64 k ∧ at' = .int .i64 c ∧ c ≤ k ∧ Hid (opens (g.take k) + c = k)) (fun _ ix => g.length - (intOf ix).toNat)
  case atStart => exact ⟨0, 0, by omega, rfl, rfl, by omega, Lib.hid rfl⟩
  case round =>
    obtain ⟨k, c, hk, rfl, rfl, hck, HE⟩ := hrel
    by_cases hlt : k < g.length
    · obtain ⟨ag', hag, gg⟩ := (HG.out.below HI.out.low).int hlt
      cases hag
      have HS := Lib.hid (opens_take hlt)
      have hvk := HV.out k (by rw [← HGl.out]; exact hlt)
      generalize g.getD k 0 = v at *
      rcases hvk with rfl | hv0
      · have HE2 : Hid (opens (g.take (k + 1)) + c = k + 1) := Lib.hid (by rw [HS.out, if_pos rfl]; have := HE.out; omega)
        clear HS HE
        go_wp2
        go_round
        case rel => exact ⟨k + 1, c, by omega, by go_num, rfl, by omega, HE2⟩
        case measure => simp [intOf]; omega
      · have HE2 : Hid (opens (g.take (k + 1)) + (c + 1) = k + 1) := Lib.hid (by rw [HS.out, if_neg (by omega)]; have := HE.out; omega)
        clear HS HE
        go_wp2
        go_round
        case rel => exact ⟨k + 1, c + 1, by omega, by go_num, by go_num, by omega, HE2⟩
        case measure => simp [intOf]; omega
    · obtain rfl : k = g.length := by omega
      obtain rfl : c = m := opens_all HE.out HOp.out HGl.out
      clear HE
      obtain ⟨ap, rfl, gp⟩ := (HP.out.below HI.out.low).int (show c < pl.length by rw [HPl.out]; exact hm)
      have hig : i < g.length := by rw [HGl.out]; exact hi
      have hcp : c < pl.length := by rw [HPl.out]; exact hm
      obtain ⟨a2, rfl, g2⟩ := (own_rdK HI.out.row).int hig
      have fz := own_froz HI.out.row i 0
      rw [own_at' HI.out.row] at fz
      have HPt := Lib.hid (HI.out.put i (pl.getD c 0))
      have hv1 := HPv.out c hm
      have HIi := HI
      clear HI
      generalize hpv : pl.getD c 0 = pv at *
      have HPv2 := Lib.hid hpv
      clear hpv
      go_upto_region 10 with fail
      refine name_world fun V hV => ?_
      have HI : Hid (TrI mn mx sw ts.length ls.length hs.length w.heap.size base A ca B cb D cd (some a2) g.length c2 w (g.set i pv) V) := Lib.hid (by rw [hV]; exact HPt.out)
      clear hV HPt g2 fz gp
      go_wp2
      go_loopw [10, 40] (fun at' ix wr => ∃ (k j : Nat) (R : List Int), k ≤ g.length ∧ ix = .int .i64 k ∧ at' = .int .i64 j ∧ j ≤ pl.length ∧ Hid (trG pl c i k (j + 1) (g.drop k) = q.drop k) ∧ Hid (Fits ts.length i k (j + 1) (g.drop k)) ∧ Hid (PutK R q (g.set i pv) k) ∧
        Hid (TrI mn mx sw ts.length ls.length hs.length w.heap.size base A ca B cb D cd (some a2) g.length c2 w R wr)) (fun _ ix _ => g.length - (intOf ix).toNat)
      case atStart => exact ⟨0, c, _, by omega, rfl, rfl, by omega, HTry, HF0, Lib.hid (PutK.start _ _), HI⟩
      case round =>
        obtain ⟨k, j, R, hk, rfl, rfl, hj, HTr, HFt, HPu, HIr⟩ := hrel
        clear HI
        by_cases hlt : k < g.length
        · have hkn : k < ts.length := by rw [← HGl.out]; exact hlt
          have hRl : k < R.length := by rw [HPu.out.1, HSl.out]; exact hkn
          obtain ⟨a3, ha3, g3⟩ := (own_rdK HIr.out.row).int hRl
          cases ha3
          have fz := own_froz HIr.out.row k 0
          rw [own_at' HIr.out.row] at fz
          have eR : R.getD k 0 = if k = i then pv else g.getD k 0 := by rw [HPu.out.2.2 k (Nat.le_refl _), HSv.out]
          have HS := Lib.hid (trG_step' hlt (by rw [HQl.out]; exact hkn) HTr.out)
          have HF2 := Lib.hid (fits_step' hlt HFt.out)
          rw [eR] at g3
          have hvk := HV.out k hkn
          clear HTr HFt eR
          by_cases hki : k = i
          · rw [if_pos hki] at g3
            obtain ⟨t1, t2⟩ := HS.out.1 hki
            have HP2 := Lib.hid (HPu.out.skip (by rw [HSv.out, if_pos hki, t1, HPv2.out]))
            have HT2 := Lib.hid t2; have HF3 := Lib.hid (HF2.out.1 hki)
            clear t1 t2 HS HF2 hki hvk HPu
            go_wp2
            refine ⟨⟨k + 1, j, R, by omega, by go_num, rfl, hj, HT2, HF3, HP2, HIr⟩, ?_⟩
            simp [intOf]; omega
          · rw [if_neg hki] at g3
            rcases hvk with hgk | hgk
            · obtain ⟨t1, t2⟩ := HS.out.2.1 hki hgk
              obtain ⟨f1, f2⟩ := HF2.out.2.1 hki hgk
              have HT2 := Lib.hid t2; have HF3 := Lib.hid f2
              have hjl : j + 1 < pl.length := by rw [HPl.out]; exact f1
              have hjl2 : (j : Int) + 1 < (pl.length : Int) := by omega
              obtain ⟨ap', ha', gp⟩ := (HP.out.below HIr.out.low).int hjl
              cases ha'
              have HP2 := Lib.hid (HPu.out.put (by rw [HSl.out]; exact hkn))
              have HPt := Lib.hid (HIr.out.put k (q.getD k 0))
              rw [← t1] at gp
              rw [hgk] at g3
              clear t1 t2 f1 f2 HS HF2 hki hgk HPu
              generalize q.getD k 0 = qv at *
              generalize hj1 : j + 1 = j1 at *
              have e1 : (j : Int) + 1 = (j1 : Int) := by omega
              clear hj1
              go_wp2
              refine ⟨⟨k + 1, j1, _, by omega, by go_num, rfl, by omega, HT2, HF3, HP2, HPt⟩, ?_⟩
              simp [intOf]; omega
            · obtain ⟨t1, t2⟩ := HS.out.2.2 hki (by omega)
              have HT2 := Lib.hid t2; have HF3 := Lib.hid (HF2.out.2.2 hki (by omega))
              have HP2 := Lib.hid (HPu.out.skip (by rw [HSv.out, if_neg hki, t1]))
              clear t1 t2 HS HF2 hki HPu
              generalize g.getD k 0 = v at *
              go_wp2
              refine ⟨⟨k + 1, j, R, by omega, by go_num, rfl, hj, HT2, HF3, HP2, HIr⟩, ?_⟩
              simp [intOf]; omega
        · obtain rfl : k = g.length := by omega
          have hRq : R = q := PutK.done (n := g.length) HPu.out (by rw [HSl.out, HGl.out]) (by rw [HQl.out, HGl.out])
          subst hRq
          obtain ⟨cx, cy⟩ := box_rules HIr.out.boxc
          have f9 := Lib.hid (c9.out (some a2) c2 wr (Ht.out.below HIr.out.low) (Hl.out.below HIr.out.low) (Hh.out.below HIr.out.low) (own_rdK HIr.out.row))
          clear HPu HTr HFt c9
          have lb : w.heap.size + 2 ≤ wr.heap.size := by have := box_lt HIr.out.boxz; omega
          go_wp2_with fail
          refine f9.out.mono ?_
          rintro e w5 ⟨-, h5, hb5⟩
          obtain ⟨A5, a5, B5, b5, D5, d5, rfl, ho1, ho2, ho3⟩ := h5 (by first | rfl | trivial)
          have HB5 := Lib.hid (HIr.out.low.trans (hb5.mono HIr.out.low.size))
          have HZ5 := Lib.hid (box_keep HIr.out.boxz hb5)
          have HO1 := Lib.hid (own_monoK (base' := w.heap.size + 2) ho1 lb)
          have HO2 := Lib.hid (own_monoK (base' := w.heap.size + 2) ho2 lb)
          have HO3 := Lib.hid (own_monoK (base' := w.heap.size + 2) ho3 lb)
          clear h5 hb5 ho1 ho2 ho3 cx cy lb
          obtain ⟨zx, zy⟩ := box_rules HZ5.out
          have lz := box_lt HZ5.out
          go_wp2
          refine bodyPost_ret (v := .agg #[.int .i64 mn, .int .i64 mx, .int .i64 sw, .slice A5 ts.length a5, .slice B5 ls.length b5, .slice D5 hs.length d5]) ?_ rfl ?_
          · have h4 := fun (o : Obj) => box_alloc (box_set (i := 5) (box_set (i := 4) (box_set (i := 3) (box_set (i := 2) (box_set (i := 1) (box_set (i := 0) HZ5.out (.int .i64 mn)) (.int .i64 mx)) (.int .i64 sw)) (.slice A5 ts.length a5)) (.slice B5 ls.length b5)) (.slice D5 hs.length d5)) o
            have hz := fun o => (box_rules (h4 o)).1
            simp [results, Tryz.f25, go_sem, hz]
          · have lz2 : w.heap.size + 1 < w.heap.size + 2 := by omega
            refine ⟨A5, a5, B5, b5, D5, d5, rfl, ?_, ?_, ?_, ?_⟩
            · refine own_monoK (base := w.heap.size + 2) ?_ (by omega)
              repeat (with_reducible first | exact HO1.out | refine own_allocK ?_ _ | refine own_setK ?_ (own_low HO1.out lz2) _)
            · refine own_monoK (base := w.heap.size + 2) ?_ (by omega)
              repeat (with_reducible first | exact HO2.out | refine own_allocK ?_ _ | refine own_setK ?_ (own_low HO2.out lz2) _)
            · refine own_monoK (base := w.heap.size + 2) ?_ (by omega)
              repeat (with_reducible first | exact HO3.out | refine own_allocK ?_ _ | refine own_setK ?_ (own_low HO3.out lz2) _)
            · refine Below.alloc ?_ (by have := HB5.out.size; simpa using this) _
              repeat (with_reducible first | exact HB5.out | refine Below.setCell ?_ (by show w.heap.size ≤ w.heap.size + 1; omega) _)
end Go.Proofs.YtgampofpabllbaaGreat
/- vergeref36: the walk of Assign. Conditions: lists that read. -/
namespace Go.Proofs.YtgampofpabllbaaGreat
open Go.RowKit Go.Shelf
attribute [local go_sem] Oper.semAt_some

/-- What Assign's memory holds while places are given. -/
structure AgI (mn mx sw : Int) (nt nl nh : Nat) (A : Option Addr) (ca : Nat) (B : Option Addr) (cb : Nat) (D : Option Addr) (cd : Nat) (G : Option Addr) (n cg : Nat) (w w2 : World) (g : List Int) (wx : World) : Prop where
  boxc : wx.heap[w.heap.size]? = some (.cells #[.int .i64 mn, .int .i64 mx, .int .i64 sw, .slice A nt ca, .slice B nl cb, .slice D nh cd] 28 (0, 0))
  boxz : wx.heap[w.heap.size + 1]? = some (.cells #[.int .i64 0, .int .i64 0, .int .i64 0, .slice none 0 0, .slice none 0 0, .slice none 0 0] 28 (0, 0))
  row : wx.ownsRow w2.heap.size 3 1 (.slice G n cg) n (g.map (.int .i64))
  low : Below w2.heap.size w2 wx
  lo0 : Below w.heap.size w wx
  bl : w.heap.size + 2 ≤ w2.heap.size
section
variable {mn mx sw : Int} {nt nl nh n : Nat} {A : Option Addr} {ca : Nat} {B : Option Addr} {cb : Nat} {D : Option Addr} {cd : Nat} {G : Option Addr} {cg : Nat} {a : Addr} {w w2 : World} {g : List Int} {wx w3 : World}
theorem AgI.below (h : AgI mn mx sw nt nl nh A ca B cb D cd G n cg w w2 g wx) (hb : Below wx.heap.size wx w3) : AgI mn mx sw nt nl nh A ca B cb D cd G n cg w w2 g w3 :=
  ⟨box_keep h.boxc hb, box_keep h.boxz hb, own_belowK h.row hb, h.low.trans (hb.mono h.low.size), h.lo0.trans (hb.mono h.lo0.size), h.bl⟩
theorem AgI.app (h : AgI mn mx sw nt nl nh A ca B cb D cd G n cg w w2 g wx) {o : Obj} {G3 : Option Addr} {c3 : Nat} {v : Int} (ho : w3.ownsRow w2.heap.size 3 1 (.slice G3 (n + 1) c3) (n + 1) (g.map (.int .i64) ++ [.int .i64 v])) (hg : (wx.alloc o).grownBy w3 (Value.slice G n cg).ownBlock) :
    AgI mn mx sw nt nl nh A ca B cb D cd G3 (n + 1) c3 w w2 (g ++ [v]) w3 := by
  have S := grown_step h.row hg
  have bl := h.bl
  refine ⟨S.low h.boxc (by omega), S.low h.boxz (by omega), by rw [List.map_append]; exact ho, S.below h.low (Nat.le_refl _) h.low.size, S.below h.lo0 (by omega) h.lo0.size, bl⟩
theorem AgI.put (h : AgI mn mx sw nt nl nh A ca B cb D cd (some a) n cg w w2 g wx) (k : Nat) (v : Int) : AgI mn mx sw nt nl nh A ca B cb D cd (some a) n cg w w2 (g.set k v) (wx.setCell (a.add k) (.int .i64 v)) := by
  obtain ⟨b1, b2⟩ := own_blk h.row k
  have bl := h.bl
  refine ⟨box_far h.boxc (p := a.add k) (by omega) _, box_far h.boxz (p := a.add k) (by omega) _, ?_, h.low.setCell (p := a.add k) (by omega) _, h.lo0.setCell (p := a.add k) (by omega) _, bl⟩
  have hp := own_put h.row k 0 (.int .i64 v)
  rw [own_at' h.row, Nat.add_zero] at hp
  rw [List.map_set]
  exact hp
end
theorem repl_snoc (k : Nat) : List.replicate k (-1 : Int) ++ [-1] = List.replicate (k + 1) (-1) := by rw [List.replicate_succ']
theorem firstFit_step {f : Nat → Bool} {g : List Int} {k : Nat} (h : k < g.length) : firstFit f k (g.drop k) = if g.getD k 0 = -1 ∧ f k = true then some k else firstFit f (k + 1) (g.drop (k + 1)) := by
  rw [drop_cons' h]; rfl
def fitXr (mn mx sw : Int) (ts : List Tk) (ls : List Ln) (hs : List Th) (q : List Int) (i : Nat) : Int := if askY (Cf.why ⟨mn, mx, sw, putP ts q, ls, hs⟩) (putP ts q) (i : Int) = 0 then (boundR mn sw (putP ts q) ls hs ((putP ts q).getD (i : Int).toNat tk0)).1 else 0
def fitYr (mn mx sw : Int) (ts : List Tk) (ls : List Ln) (hs : List Th) (q : List Int) (i : Nat) : Int := if askY (Cf.why ⟨mn, mx, sw, putP ts q, ls, hs⟩) (putP ts q) (i : Int) = 0 then (boundR mn sw (putP ts q) ls hs ((putP ts q).getD (i : Int).toNat tk0)).2 else askY (Cf.why ⟨mn, mx, sw, putP ts q, ls, hs⟩) (putP ts q) (i : Int)
theorem boundq_any (mn mx sw : Int) (ts : List Tk) (ls : List Ln) (hs : List Th) (q : List Int) (A : Option Addr) (ca : Nat) (B : Option Addr) (cb : Nat) (D : Option Addr) (cd i : Nat) (w : World)
    (hlt0 : ts.length ≤ 1048576) (hll : ls.length ≤ 1048576) (hlh : hs.length ≤ 1048576) (ht : Rd w A ((putP ts q).flatMap tkc)) (hl : Rd w B (ls.flatMap lnc)) (hh : Rd w D (hs.flatMap thc)) (hmx : I64 mx) :
    Calls Tryz.prog 24 #[cfv mn mx sw A ts.length ca B ls.length cb D hs.length cd, .int .i64 (i : Int)] w (RetN (fitXr mn mx sw ts ls hs q i) (fitYr mn mx sw ts ls hs q i) w) := by
  have h := bound28_any mn mx sw (putP ts q) ls hs A ca B cb D cd (i : Int) w (by rw [putP_len]; exact hlt0) hll hlh ht hl hh hmx
  rw [putP_len] at h
  exact h
/-- What is known of the first that fits, behind i of them. -/
def FFst (f : Nat → Bool) (g : List Int) (i : Nat) (v : Int) : Prop := (v = -1 ∧ firstFit f 0 g = firstFit f i (g.drop i)) ∨ ∃ x : Nat, v = (x : Int) ∧ firstFit f 0 g = some x
theorem FFst.over {f : Nat → Bool} {g : List Int} {i : Nat} {v : Int} (h : FFst f g i v) (hi : i < g.length) (hg : ¬(g.getD i 0 = -1 ∧ f i = true)) : FFst f g (i + 1) v := by
  rcases h with ⟨h1, h2⟩ | ⟨x, h1, h2⟩
  · exact .inl ⟨h1, by rw [h2, firstFit_step hi, if_neg hg]⟩
  · exact .inr ⟨x, h1, h2⟩
theorem FFst.here {f : Nat → Bool} {g : List Int} {i : Nat} (h : FFst f g i (-1)) (hi : i < g.length) (hg : g.getD i 0 = -1 ∧ f i = true) : FFst f g (i + 1) (i : Int) := by
  rcases h with ⟨h1, h2⟩ | ⟨x, h1, h2⟩
  · exact .inr ⟨i, rfl, by rw [h2, firstFit_step hi, if_pos hg]⟩
  · omega
set_option maxHeartbeats 4000000 in
set_option maxRecDepth 100000 in
theorem assign36r_any (mn mx sw : Int) (ts : List Tk) (ls : List Ln) (hs : List Th) (A : Option Addr) (ca : Nat) (B : Option Addr) (cb : Nat) (D : Option Addr) (cd : Nat) (w : World)
    (hlt0 : ts.length ≤ 1048576) (hll : ls.length ≤ 1048576) (hlh : hs.length ≤ 1048576)
    (ht : Rd w A (ts.flatMap tkc)) (hl : Rd w B (ls.flatMap lnc)) (hh : Rd w D (hs.flatMap thc)) (hmx : I64 mx) :
    Calls Tryz.prog 9 #[cfv mn mx sw A ts.length ca B ls.length cb D hs.length cd] w (RetWi (asgY mn mx sw ts ls hs) mn mx sw ts.length ls.length hs.length (asgT mn mx sw ts ls hs) ls hs w) := by
  have c1 := Lib.hid (fun w ht hl hh => check27_cfg mn mx sw ts ls hs A ca B cb D cd w hlt0 hll hlh ht hl hh hmx)
  have Ht := Lib.hid ht; have Hl := Lib.hid hl; have Hh := Lib.hid hh
  clear ht hl hh
  by_cases hy : Cf.why ⟨mn, mx, sw, ts, ls, hs⟩ = 0
  · have hc := cfIn_of hy
    have hY : asgY mn mx sw ts ls hs = if asgP mn mx sw ts ls hs = none then 11 else 0 := if_pos hy
    rw [hY]
    rw [hy] at c1
    have c2 := Lib.hid (fun w h => places36_any mn mx sw ts ls hs A ca B cb D cd w hlt0 h)
    rw [places36_eq (fun t htm => (hc.ts t htm).prio)] at c2
    have hpl0 : ∀ r, r < ts.length → 0 ≤ (placesL ts).getD r 0 := fun r hr => (places_in hc.ts hr).1
    have hpl : ∀ r, r < ts.length → (placesL ts).getD r 0 ≠ -1 := fun r hr => by have := hpl0 r hr; omega
    have c3 := Lib.hid (fun (g : List Int) (P : Option Addr) (cp : Nat) (G : Option Addr) (cg m i : Nat) (w : World) (hg : Gv (placesL ts) ts.length m g) (hi : i < ts.length) (hgi : g.getD i 0 = -1) a1 a2 a3 a4 a5 =>
      tried36_any mn mx sw ts ls hs A ca B cb D cd (placesL ts) g P cp G cg m i w hlt0 hll hlh (places_len ts) hg.len hg.op (fun j hj => by
        rcases hg.val j hj with h | ⟨r, h1, h2⟩
        · exact .inl h
        · have := hg.op
          exact .inr (by rw [h2]; exact hpl0 r (by omega))) hpl0 hi hgi a1 a2 a3 a4 a5)
    have c4 := Lib.hid (fun (q : List Int) A ca B cb D cd (i : Nat) w ht hl hh => boundq_any mn mx sw ts ls hs q A ca B cb D cd i w hlt0 hll hlh ht hl hh hmx)
    have c5 := Lib.hid (fun q Q cq w hq ht hl hh hq' => with36r_any mn mx sw ts ls hs A ca B cb D cd q Q cq w hlt0 hll hlh (hq : q.length ≤ 1048576) ht hl hh hq')
    have HFit : Hid (∀ m g i, fitB mn mx sw ts ls hs (placesL ts) m g i = (fitYr mn mx sw ts ls hs (tryP (placesL ts) m i g) i == 0)) := Lib.hid (fun m g i => rfl)
    have HGo : Hid (asgGo (fitB mn mx sw ts ls hs (placesL ts)) (placesL ts) ts.length 0 (List.replicate ts.length (-1)) = asgP mn mx sw ts ls hs) := Lib.hid rfl
    have HG0 := Lib.hid (Gv.start (placesL ts) ts.length)
    have HGive := Lib.hid (fun (m i : Nat) (g : List Int) (h : Gv (placesL ts) ts.length m g) (hi : i < ts.length) (ho : g.getD i 0 = -1) (hm : m < ts.length) => h.give hi ho (hpl m hm))
    have HT : Hid (∀ gf, asgP mn mx sw ts ls hs = some gf → asgT mn mx sw ts ls hs = putP ts gf) := Lib.hid (fun gf h => by unfold asgT; rw [h]; rfl)
    have HPl := Lib.hid (places_len ts); have HPv := Lib.hid hpl0
    clear hc hpl hpl0 hY hmx hy
    generalize asgP mn mx sw ts ls hs = R at *
    generalize asgT mn mx sw ts ls hs = AT at *
    generalize placesL ts = pl at *
    generalize fitB mn mx sw ts ls hs pl = fit at *
    unfold RetWi RetTr RetN cfv at *
    go_enter Tryz.func9, Tryz.ntmps9
    go_upto_region 1 with fail
    refine name_world fun W hW => ?_
    have HC : Hid (W.heap[w.heap.size]? = some (.cells #[.int .i64 mn, .int .i64 mx, .int .i64 sw, .slice A ts.length ca, .slice B ls.length cb, .slice D hs.length cd] 28 (0, 0))) := Lib.hid (by rw [hW]; exact box_alloc (heap_alloc_new w _) _)
    have HZ : Hid (W.heap[w.heap.size + 1]? = some (.cells #[.int .i64 0, .int .i64 0, .int .i64 0, .slice none 0 0, .slice none 0 0, .slice none 0 0] 28 (0, 0))) := Lib.hid (by rw [hW]; exact heap_new_at _ (by simp))
    have HB : Hid (Below w.heap.size w W) := Lib.hid (by rw [hW]; exact ((Below.refl _ _).alloc (Nat.le_refl _) _).alloc (by simp) _)
    have sW : w.heap.size + 2 ≤ W.heap.size := by rw [hW]; simp
    clear hW
    obtain ⟨cx, cy⟩ := box_rules HC.out
    go_wp2_with fail
    refine (c1.out _ (Ht.out.below HB.out) (Hl.out.below HB.out) (Hh.out.below HB.out)).mono ?_
    rintro e w1 ⟨rfl, hb⟩
    have HB1 := Lib.hid (HB.out.trans (hb.mono HB.out.size))
    have HC1 := Lib.hid (box_keep HC.out hb); have HZ1 := Lib.hid (box_keep HZ.out hb)
    have s1 : w.heap.size + 2 ≤ w1.heap.size := by have := hb.size; omega
    clear cx cy hb HC HZ HB c1 sW
    obtain ⟨cx, cy⟩ := box_rules HC1.out
    go_wp2_with fail
    refine (c2.out _ (Ht.out.below HB1.out)).mono ?_
    rintro e w2 ⟨P, cp, rfl, hoP, hb⟩
    have HB2 := Lib.hid (HB1.out.trans (hb.mono HB1.out.size))
    have HP := Lib.hid (own_rdK hoP)
    have HI : Hid (AgI mn mx sw ts.length ls.length hs.length A ca B cb D cd none 0 0 w w2 [] w2) := Lib.hid ⟨box_keep HC1.out hb, box_keep HZ1.out hb, own_nilK _ _ _ _, Below.refl _ _, HB2.out, by have := hb.size; omega⟩
    have HTa := Lib.hid (Ht.out.below HB2.out); have HLa := Lib.hid (Hl.out.below HB2.out); have HHa := Lib.hid (Hh.out.below HB2.out)
    clear hb hoP HC1 HZ1 cx cy c2 s1 HB1 HB2 Ht Hl Hh
    obtain ⟨cx, cy⟩ := box_rules HI.out.boxc
    go_wp2
    go_loopw [6, 24] (fun gv ix wr => ∃ (k : Nat) (G : Option Addr) (cg : Nat), k ≤ ts.length ∧ ix = .int .i64 k ∧ gv = .slice G k cg ∧ Hid (AgI mn mx sw ts.length ls.length hs.length A ca B cb D cd G k cg w w2 (List.replicate k (-1)) wr)) (fun _ ix _ => ts.length - (intOf ix).toNat)
    case atStart => exact ⟨0, none, 0, by omega, rfl, rfl, HI⟩
    case round =>
      obtain ⟨k, G, cg, hk, rfl, rfl, HIr⟩ := hrel
      clear cx cy HI
      by_cases hlt : k < ts.length
      · have lb := HIr.out.low.size
        go_wp2_with (at_builtin; go_loud (refine wp_appK rfl _ _ skI' (by decide) rfl (own_allocK HIr.out.row _) rfl (by omega) (by simp; omega) wr.heap.size [.int .i64 (-1)] rfl rfl (fun j u hu => new_cell hu) rfl ?_); intro G4 c4' w4 ho4 hg4 hat4; have HK := Lib.hid (HIr.out.app ho4 hg4); rw [repl_snoc] at HK)
        refine ⟨⟨k + 1, G4, c4', hlt, by go_num, rfl, HK⟩, ?_⟩
        simp [intOf]; omega
      · obtain rfl : k = ts.length := by omega
        obtain ⟨cx, cy⟩ := box_rules HIr.out.boxc
        go_wp2
        go_loopw [32] (fun ix wr => ∃ (m : Nat) (g : List Int), m ≤ pl.length ∧ ix = .int .i64 m ∧ Hid (Gv pl ts.length m g) ∧ Hid (asgGo fit pl (ts.length - m) m g = R) ∧ Hid (AgI mn mx sw ts.length ls.length hs.length A ca B cb D cd G ts.length cg w w2 g wr)) (fun ix _ => pl.length - (intOf ix).toNat)
        case atStart => exact ⟨0, _, by omega, rfl, HG0, HGo, HIr⟩
        case round =>
          obtain ⟨m, g, hm, rfl, HGv, HA, HIm⟩ := hrel
          clear cx cy HIr HGo HG0
          by_cases hlt2 : m < pl.length
          · have hmn : m < ts.length := by rw [← HPl.out]; exact hlt2
            obtain ⟨ap, rfl, gp⟩ := (HP.out.below HIm.out.low).int hlt2
            have hpv := HPv.out m hmn
            generalize hpe : pl.getD m 0 = p at *
            have HPe := Lib.hid hpe
            clear hpe
            have hA := HA.out
            rw [show ts.length - m = (ts.length - (m + 1)) + 1 by omega] at hA
            have hA2 : Hid ((match firstFit (fit m g) 0 g with | none => none | some i => asgGo fit pl (ts.length - (m + 1)) (m + 1) (g.set i (pl.getD m 0))) = R) := Lib.hid hA
            clear hA HA
            go_wp2
            go_loopw [9, 38] (fun fv ix wv => ∃ (i : Nat) (v : Int), i ≤ ts.length ∧ ix = .int .i64 i ∧ fv = .int .i64 v ∧ Hid (FFst (fit m g) g i v) ∧ Hid (AgI mn mx sw ts.length ls.length hs.length A ca B cb D cd G ts.length cg w w2 g wv)) (fun _ ix _ => ts.length - (intOf ix).toNat)
            case atStart => exact ⟨0, -1, by omega, rfl, rfl, Lib.hid (.inl ⟨rfl, rfl⟩), HIm⟩
            case round =>
              obtain ⟨i, v, hi, rfl, rfl, HF, HIv⟩ := hrel
              clear HIm gp
              by_cases hlt3 : i < ts.length
              · have hig : i < g.length := by rw [HGv.out.len]; exact hlt3
                obtain ⟨ag, rfl, gg⟩ := (own_rdK HIv.out.row).int hig
                have hval := HGv.out.val i hlt3
                by_cases hgi : g.getD i 0 = -1
                · rcases HF.out with ⟨hv1, hv2⟩ | ⟨x, hv1, hv2⟩
                  · subst hv1
                    clear hv2
                    have f3 := c3.out g (some ap) cp (some ag) cg m i wr HGv.out hlt3 hgi (HTa.out.below HIv.out.low) (HLa.out.below HIv.out.low) (HHa.out.below HIv.out.low) (HP.out.below HIv.out.low) (own_rdK HIv.out.row)
                    rw [HGv.out.len] at f3
                    have F3 := Lib.hid f3
                    have HFi := Lib.hid (HFit.out m g i)
                    have Hgi := Lib.hid hgi
                    have F4 := Lib.hid (fun A ca B cb D cd w ht hl hh => c4.out (tryP pl m i g) A ca B cb D cd i w ht hl hh)
                    rw [hgi] at gg
                    clear f3 hval hgi
                    generalize fitYr mn mx sw ts ls hs (tryP pl m i g) i = FY at *
                    generalize fitXr mn mx sw ts ls hs (tryP pl m i g) i = FX at *
                    obtain ⟨cx, cy⟩ := box_rules HIv.out.boxc
                    go_wp2_with fail
                    refine F3.out.mono ?_
                    rintro e w5 ⟨A5, a5, B5, b5, D5, d5, rfl, ho1, ho2, ho3, hb5⟩
                    have HI5 := Lib.hid (HIv.out.below hb5)
                    have F5 := Lib.hid (F4.out A5 a5 B5 b5 D5 d5 w5 (own_rdK ho1) (own_rdK ho2) (own_rdK ho3))
                    clear ho1 ho2 ho3 hb5 F3 F4 HIv cx cy
                    go_wp2_with fail
                    refine F5.out.mono ?_
                    rintro e w6 ⟨rfl, hb6⟩
                    have HI6 := Lib.hid (HI5.out.below hb6)
                    clear hb6 HI5 F5
                    by_cases hfy : FY = 0
                    · subst hfy
                      have HF2 := Lib.hid (HF.out.here hig ⟨Hgi.out, by rw [HFi.out]; rfl⟩)
                      clear HF HFi
                      go_wp2
                      refine ⟨⟨i + 1, _, hlt3, by go_num, rfl, HF2, HI6⟩, ?_⟩
                      simp [intOf]; omega
                    · have hfy2 : (FY == 0) = false := by simpa using hfy
                      have HF2 := Lib.hid (HF.out.over hig (fun h => by rw [HFi.out, hfy2] at h; exact absurd h.2 (by simp)))
                      clear HF HFi hfy
                      go_wp2
                      refine ⟨⟨i + 1, _, hlt3, by go_num, rfl, HF2, HI6⟩, ?_⟩
                      simp [intOf]; omega
                  · subst hv1
                    have HF2 : Hid (FFst (fit m g) g (i + 1) (x : Int)) := Lib.hid (.inr ⟨x, rfl, hv2⟩)
                    rw [hgi] at gg
                    clear hval hgi HF hv2
                    go_wp2
                    refine ⟨⟨i + 1, _, hlt3, by go_num, rfl, HF2, HIv⟩, ?_⟩
                    simp [intOf]; omega
                · have hg0 : 0 ≤ g.getD i 0 := by
                    rcases hval with h | ⟨r, h1, h2⟩
                    · exact absurd h hgi
                    · rw [h2]; exact HPv.out r (by omega)
                  have HF2 := Lib.hid (HF.out.over hig (fun h => hgi h.1))
                  clear hval hgi HF
                  generalize g.getD i 0 = gv at *
                  go_wp2
                  refine ⟨⟨i + 1, _, hlt3, by go_num, rfl, HF2, HIv⟩, ?_⟩
                  simp [intOf]; omega
              · obtain rfl : i = ts.length := by omega
                rcases HF.out with ⟨hv1, hv2⟩ | ⟨x, hv1, hv2⟩
                · subst hv1
                  have hR : R = none := by
                    rw [List.drop_of_length_le (by rw [HGv.out.len]; exact Nat.le_refl _)] at hv2
                    have h1 := hA2.out
                    rw [show firstFit (fit m g) 0 g = none from hv2] at h1
                    exact h1.symm
                  subst hR
                  clear hv2 HF hA2
                  obtain ⟨zx, zy⟩ := box_rules HIv.out.boxz
                  go_wp2
                  refine bodyPost_ret (v := .tuple #[.agg #[.int .i64 0, .int .i64 0, .int .i64 0, .slice none 0 0, .slice none 0 0, .slice none 0 0], .int .i64 11]) ?_ rfl ?_
                  · have h4 := box_set (i := 5) (box_set (i := 4) (box_set (i := 3) (box_set (i := 2) (box_set (i := 1) (box_set (i := 0) HIv.out.boxz (.int .i64 0)) (.int .i64 0)) (.int .i64 0)) (.slice none 0 0)) (.slice none 0 0)) (.slice none 0 0)
                    have hz := (box_rules h4).1
                    simp [results, Tryz.f9, go_sem, hz]
                  · refine ⟨rfl, ?_⟩
                    repeat (with_reducible first | exact HIv.out.lo0 | refine Below.setCell ?_ (by show w.heap.size ≤ w.heap.size + 1; omega) _)
                · subst hv1
                  have HA3 : Hid (asgGo fit pl (ts.length - (m + 1)) (m + 1) (g.set x p) = R) := Lib.hid (by have h1 := hA2.out; rw [hv2] at h1; rw [← HPe.out]; exact h1)
                  obtain ⟨h1, h2, h3, -⟩ := firstFit_at hv2
                  rw [Nat.zero_add] at h2
                  rw [Nat.sub_zero] at h3
                  have hxn : x < ts.length := by rw [← HGv.out.len]; exact h2
                  have HG3 : Hid (Gv pl ts.length (m + 1) (g.set x p)) := Lib.hid (by have := HGive.out m x g HGv.out hxn h3 hmn; rw [HPe.out] at this; exact this)
                  obtain ⟨ag, rfl, gg⟩ := (own_rdK HIv.out.row).int h2
                  have fz := own_froz HIv.out.row x 0
                  rw [own_at' HIv.out.row] at fz
                  have HPt := Lib.hid (HIv.out.put x p)
                  clear hv2 h1 h2 h3 HF hA2
                  go_wp2
                  refine ⟨⟨m + 1, _, hlt2, by go_num, HG3, HA3, HPt⟩, ?_⟩
                  simp [intOf]; omega
          · obtain rfl : m = pl.length := by omega
            have hR : R = some g := by have h := HA.out; rw [HPl.out, Nat.sub_self] at h; exact h.symm
            subst hR
            have HT2 := Lib.hid (HT.out g rfl)
            have f5 := c5.out g G cg wr (by rw [HGv.out.len]; exact hlt0) (HTa.out.below HIm.out.low) (HLa.out.below HIm.out.low) (HHa.out.below HIm.out.low) (own_rdK HIm.out.row)
            rw [if_pos HGv.out.len, HGv.out.len] at f5
            have F5 := Lib.hid f5
            have lb : w.heap.size + 2 ≤ wr.heap.size := Nat.le_trans HIm.out.bl HIm.out.low.size
            obtain ⟨cx, cy⟩ := box_rules HIm.out.boxc
            clear f5 c3 c4 c5 HA HT
            go_wp2_with fail
            refine F5.out.mono ?_
            rintro e w5 ⟨-, h5, hb5⟩
            obtain ⟨A5, a5, B5, b5, D5, d5, rfl, ho1, ho2, ho3⟩ := h5 (by first | rfl | trivial)
            have HB5 := Lib.hid (HIm.out.lo0.trans (hb5.mono HIm.out.lo0.size))
            have HZ5 := Lib.hid (box_keep HIm.out.boxz hb5)
            have HO1 := Lib.hid (own_monoK (base' := w.heap.size + 2) ho1 lb)
            have HO2 := Lib.hid (own_monoK (base' := w.heap.size + 2) ho2 lb)
            have HO3 := Lib.hid (own_monoK (base' := w.heap.size + 2) ho3 lb)
            clear h5 hb5 ho1 ho2 ho3 cx cy lb
            obtain ⟨zx, zy⟩ := box_rules HZ5.out
            go_wp2
            refine bodyPost_ret (v := .tuple #[.agg #[.int .i64 mn, .int .i64 mx, .int .i64 sw, .slice A5 ts.length a5, .slice B5 ls.length b5, .slice D5 hs.length d5], .int .i64 0]) ?_ rfl ?_
            · have h4 := box_set (i := 5) (box_set (i := 4) (box_set (i := 3) (box_set (i := 2) (box_set (i := 1) (box_set (i := 0) HZ5.out (.int .i64 mn)) (.int .i64 mx)) (.int .i64 sw)) (.slice A5 ts.length a5)) (.slice B5 ls.length b5)) (.slice D5 hs.length d5)
              have hz := (box_rules h4).1
              simp [results, Tryz.f9, go_sem, hz]
            · have lz2 : w.heap.size + 1 < w.heap.size + 2 := by omega
              refine ⟨⟨A5, a5, B5, b5, D5, d5, rfl, ?_, ?_, ?_⟩, ?_⟩
              · rw [HT2.out]
                refine own_monoK (base := w.heap.size + 2) ?_ (by omega)
                repeat (with_reducible first | exact HO1.out | refine own_setK ?_ (own_low HO1.out lz2) _)
              · refine own_monoK (base := w.heap.size + 2) ?_ (by omega)
                repeat (with_reducible first | exact HO2.out | refine own_setK ?_ (own_low HO2.out lz2) _)
              · refine own_monoK (base := w.heap.size + 2) ?_ (by omega)
                repeat (with_reducible first | exact HO3.out | refine own_setK ?_ (own_low HO3.out lz2) _)
              · repeat (with_reducible first | exact HB5.out | refine Below.setCell ?_ (by show w.heap.size ≤ w.heap.size + 1; omega) _)
  · have hY : asgY mn mx sw ts ls hs = Cf.why ⟨mn, mx, sw, ts, ls, hs⟩ := if_neg hy
    rw [hY]
    have hy2 : (Cf.why ⟨mn, mx, sw, ts, ls, hs⟩ != 0) = true := by simpa using hy
    generalize Cf.why ⟨mn, mx, sw, ts, ls, hs⟩ = y at *
    have HY := Lib.hid hy
    clear hY hmx hy
    unfold RetWi cfv at *
    go_enter Tryz.func9, Tryz.ntmps9
    go_upto_region 1 with fail
    refine name_world fun W hW => ?_
    have HC : Hid (W.heap[w.heap.size]? = some (.cells #[.int .i64 mn, .int .i64 mx, .int .i64 sw, .slice A ts.length ca, .slice B ls.length cb, .slice D hs.length cd] 28 (0, 0))) := Lib.hid (by rw [hW]; exact box_alloc (heap_alloc_new w _) _)
    have HZ : Hid (W.heap[w.heap.size + 1]? = some (.cells #[.int .i64 0, .int .i64 0, .int .i64 0, .slice none 0 0, .slice none 0 0, .slice none 0 0] 28 (0, 0))) := Lib.hid (by rw [hW]; exact heap_new_at _ (by simp))
    have HB : Hid (Below w.heap.size w W) := Lib.hid (by rw [hW]; exact ((Below.refl _ _).alloc (Nat.le_refl _) _).alloc (by simp) _)
    obtain ⟨cx, cy⟩ := box_rules HC.out
    clear hW
    go_wp2_with fail
    refine (c1.out _ (Ht.out.below HB.out) (Hl.out.below HB.out) (Hh.out.below HB.out)).mono ?_
    rintro e w1 ⟨rfl, hb⟩
    have HB1 := Lib.hid (HB.out.trans (hb.mono HB.out.size))
    have HZ1 := Lib.hid (box_keep HZ.out hb)
    clear cx cy hb HC HZ HB c1
    obtain ⟨zx, zy⟩ := box_rules HZ1.out
    go_wp2
    refine bodyPost_ret (v := .tuple #[.agg #[.int .i64 0, .int .i64 0, .int .i64 0, .slice none 0 0, .slice none 0 0, .slice none 0 0], .int .i64 y]) ?_ rfl ?_
    · have h4 := box_set (i := 5) (box_set (i := 4) (box_set (i := 3) (box_set (i := 2) (box_set (i := 1) (box_set (i := 0) HZ1.out (.int .i64 0)) (.int .i64 0)) (.int .i64 0)) (.slice none 0 0)) (.slice none 0 0)) (.slice none 0 0)
      have hz := (box_rules h4).1
      simp [results, Tryz.f9, go_sem, hz]
    · refine ⟨fun _ => rfl, fun h => absurd h HY.out, ?_⟩
      repeat (with_reducible first | exact HB1.out | refine Below.setCell ?_ (by show w.heap.size ≤ w.heap.size + 1; omega) _)
end Go.Proofs.YtgampofpabllbaaGreat
/- Package vergeref26: the walk of Same, where both are the same. Conditions: lists that read. -/
namespace Go.Proofs.YtgampofpabllbaaGreat
open Go.RowKit Go.Shelf

set_option maxHeartbeats 4000000 in
set_option maxRecDepth 100000 in
theorem same26_one (mn mx sw : Int) (ts : List Tk) (ls : List Ln) (hs : List Th) (A : Option Addr) (ca : Nat) (B : Option Addr) (cb : Nat) (D : Option Addr) (cd : Nat) (A' : Option Addr) (ca' : Nat) (B' : Option Addr) (cb' : Nat) (D' : Option Addr) (cd' : Nat) (w : World)
    (hlt0 : ts.length ≤ 1048576) (hll : ls.length ≤ 1048576) (hlh : hs.length ≤ 1048576)
    (ht : Rd w A (ts.flatMap tkc)) (hl : Rd w B (ls.flatMap lnc)) (hh : Rd w D (hs.flatMap thc)) (ht' : Rd w A' (ts.flatMap tkc)) (hl' : Rd w B' (ls.flatMap lnc)) (hh' : Rd w D' (hs.flatMap thc)) :
    Calls Tryz.prog 14 #[cfv mn mx sw A ts.length ca B ls.length cb D hs.length cd, cfv mn mx sw A' ts.length ca' B' ls.length cb' D' hs.length cd'] w fun e w' => e = .returned (.bool true) ∧ Below w.heap.size w w' := by
  unfold cfv
  go_enter Tryz.func14, Tryz.ntmps14
  go_upto_region 1 with fail
  refine name_world fun W hW => ?_
  have HC : Hid (W.heap[w.heap.size]? = some (.cells #[.int .i64 mn, .int .i64 mx, .int .i64 sw, .slice A ts.length ca, .slice B ls.length cb, .slice D hs.length cd] 28 (0, 0))) := Lib.hid (by rw [hW]; exact box_alloc (heap_alloc_new w _) _)
  have HD : Hid (W.heap[w.heap.size + 1]? = some (.cells #[.int .i64 mn, .int .i64 mx, .int .i64 sw, .slice A' ts.length ca', .slice B' ls.length cb', .slice D' hs.length cd'] 28 (0, 0))) := Lib.hid (by rw [hW]; exact heap_new_at _ (by simp))
  have HB : Hid (Below w.heap.size w W) := Lib.hid (by rw [hW]; exact ((Below.refl _ _).alloc (Nat.le_refl _) _).alloc (by simp) _)
  have H1 := Lib.hid (ht.below HB.out); have H2 := Lib.hid (hl.below HB.out); have H3 := Lib.hid (hh.below HB.out)
  have G1 := Lib.hid (ht'.below HB.out); have G2 := Lib.hid (hl'.below HB.out); have G3 := Lib.hid (hh'.below HB.out)
  clear hW ht hl hh ht' hl' hh'
  obtain ⟨cx, cy⟩ := box_rules HC.out
  obtain ⟨dx, dy⟩ := box_rules HD.out
  go_wp2
  go_loopw [50] (fun i wr => ∃ k : Nat, k ≤ ts.length ∧ i = .int .i64 k ∧ ∃ n, wr = W.drewN n) (fun i _ => ts.length - (intOf i).toNat)
  case atStart => exact ⟨0, by omega, rfl, 0, rfl⟩
  case round =>
    obtain ⟨k, hk, rfl, n, rfl⟩ := hrel
    by_cases hlt : k < ts.length
    · obtain ⟨a, x, rfl, hx, ⟨p0, p1, p2, p3⟩, p4, p5, p6, p7, p8, p9⟩ := H1.out.tkAt hlt
      obtain ⟨b, y, rfl, hy, ⟨q0, q1, q2, q3⟩, q4, q5, q6, q7, q8, q9⟩ := G1.out.tkAt hlt
      obtain rfl := hx.symm.trans hy
      clear hx hy
      obtain ⟨x0, x1, x2, x3, x4, x5, x6, x7, x8, x9⟩ := x
      dsimp only at p0 p1 p2 p3 p4 p5 p6 p7 p8 p9 q0 q1 q2 q3 q4 q5 q6 q7 q8 q9
      go_wp2
      go_quiet (fail)
      go_wp2
      go_roundw
      case rel => exact ⟨k + 1, by omega, by go_num, _, rfl⟩
      case measure => simp [intOf]; omega
    · obtain rfl : k = ts.length := by omega
      go_wp2
      go_loopw [68] (fun i wr => ∃ k : Nat, k ≤ ls.length ∧ i = .int .i64 k ∧ ∃ n, wr = W.drewN n) (fun i _ => ls.length - (intOf i).toNat)
      case atStart => exact ⟨0, by omega, rfl, _, rfl⟩
      case round =>
        obtain ⟨k, hk, rfl, n, rfl⟩ := hrel
        by_cases hlt : k < ls.length
        · obtain ⟨a, x, rfl, hx, p0, p1, p2, p3⟩ := H2.out.lnAt hlt
          obtain ⟨b, y, rfl, hy, q0, q1, q2, q3⟩ := G2.out.lnAt hlt
          obtain rfl := hx.symm.trans hy
          clear hx hy
          obtain ⟨x0, x1, x2, x3⟩ := x
          dsimp only at p0 p1 p2 p3 q0 q1 q2 q3
          go_wp2
          go_quiet (fail)
          go_wp2
          refine ⟨⟨k + 1, by omega, by go_num, _, rfl⟩, ?_⟩
          simp [intOf]; omega
        · obtain rfl : k = ls.length := by omega
          go_wp2
          go_loopw [86] (fun i wr => ∃ k : Nat, k ≤ hs.length ∧ i = .int .i64 k ∧ ∃ n, wr = W.drewN n) (fun i _ => hs.length - (intOf i).toNat)
          case atStart => exact ⟨0, by omega, rfl, _, rfl⟩
          case round =>
            obtain ⟨k, hk, rfl, n, rfl⟩ := hrel
            by_cases hlt : k < hs.length
            · obtain ⟨a, x, rfl, hx, p0, p1, p2, p3⟩ := H3.out.thAt hlt
              obtain ⟨b, y, rfl, hy, q0, q1, q2, q3⟩ := G3.out.thAt hlt
              obtain rfl := hx.symm.trans hy
              clear hx hy
              obtain ⟨x0, x1, x2, x3⟩ := x
              dsimp only at p0 p1 p2 p3 q0 q1 q2 q3
              go_wp2
              go_quiet (fail)
              go_wp2
              refine ⟨⟨k + 1, by omega, by go_num, _, rfl⟩, ?_⟩
              simp [intOf]; omega
            · obtain rfl : k = hs.length := by omega
              go_wp2
              go_ret
              exact ⟨rfl, bdrewN HB.out _⟩
end Go.Proofs.YtgampofpabllbaaGreat
/- vergelaw36: the walk of AssignTells. Conditions: lists that read. -/
namespace Go.Proofs.YtgampofpabllbaaGreat
open Go.RowKit Go.Shelf
attribute [local go_sem] Oper.semAt_some

/-- A configuration that lies anywhere, and an answer. -/
def UniC (m1 m2 m3 : Int) (T : List Tk) (L : List Ln) (H : List Th) (y : Int) (w : World) (e : Ending) (w' : World) : Prop :=
  ∃ (A : Option Addr) (ca : Nat) (B : Option Addr) (cb : Nat) (D : Option Addr) (cd : Nat), e = .returned (.tuple #[cfv m1 m2 m3 A T.length ca B L.length cb D H.length cd, .int .i64 y]) ∧
    Rd w' A (T.flatMap tkc) ∧ Rd w' B (L.flatMap lnc) ∧ Rd w' D (H.flatMap thc) ∧ Below w.heap.size w w'
theorem uni_yes {mn mx sw : Int} {T : List Tk} {L : List Ln} {H : List Th} {w : World} {e : Ending} {w' : World} (h : RetWi 0 mn mx sw T.length L.length H.length T L H w e w') : UniC mn mx sw T L H 0 w e w' := by
  obtain ⟨-, h2, hb⟩ := h
  obtain ⟨A, ca, B, cb, D, cd, he, h1, h2, h3⟩ := h2 rfl
  exact ⟨A, ca, B, cb, D, cd, he, own_rdK h1, own_rdK h2, own_rdK h3, hb⟩
theorem uni_no {y mn mx sw : Int} {nt nl nh : Nat} {T : List Tk} {L : List Ln} {H : List Th} {w : World} {e : Ending} {w' : World} (hy : y ≠ 0) (h : RetWi y mn mx sw nt nl nh T L H w e w') : UniC 0 0 0 [] [] [] y w e w' := by
  obtain ⟨h1, -, hb⟩ := h
  exact ⟨none, 0, none, 0, none, 0, h1 hy, Rd.nil _ _, Rd.nil _ _, Rd.nil _ _, hb⟩
/-- A list that lies anywhere, and an answer. -/
def UniO (l : List Int) (y : Int) (w : World) (e : Ending) (w' : World) : Prop :=
  ∃ (P : Option Addr) (cp : Nat), e = .returned (.tuple #[.slice P l.length cp, .int .i64 y]) ∧ Rd w' P (l.map (.int .i64)) ∧ Below w.heap.size w w'
theorem unio_of (y : Int) (ts : List Tk) : ∃ l : List Int, l.length ≤ ts.length ∧ ∀ w e w', RetOr y ts w e w' → UniO l y w e w' := by
  by_cases hy : y = 0
  · subst hy
    refine ⟨(ordL ts).map fun i : Nat => (i : Int), by rw [List.length_map, ord_len]; exact Nat.le_refl _, fun w e w' ⟨_, h, hb⟩ => ?_⟩
    obtain ⟨P, cp, he, ho⟩ := h rfl
    refine ⟨P, cp, by rw [List.length_map, ord_len]; exact he, ?_, hb⟩
    rw [List.map_map]
    exact own_rdK ho
  · exact ⟨[], Nat.zero_le _, fun w e w' ⟨h, _, hb⟩ => ⟨none, 0, h hy, Rd.nil _ _, hb⟩⟩
theorem unic_of (y mn mx sw : Int) (nt : Nat) (T : List Tk) (hT : T.length = nt) (L : List Ln) (H : List Th) : ∃ (m1 m2 m3 : Int) (T' : List Tk) (L' : List Ln) (H' : List Th), T'.length ≤ nt ∧ L'.length ≤ L.length ∧ H'.length ≤ H.length ∧
    ∀ w e w', RetWi y mn mx sw nt L.length H.length T L H w e w' → UniC m1 m2 m3 T' L' H' y w e w' := by
  subst hT
  by_cases hy : y = 0
  · subst hy
    exact ⟨mn, mx, sw, T, L, H, Nat.le_refl _, Nat.le_refl _, Nat.le_refl _, fun w e w' h => uni_yes h⟩
  · exact ⟨0, 0, 0, [], [], [], Nat.zero_le _, Nat.zero_le _, Nat.zero_le _, fun w e w' h => uni_no hy h⟩
theorem sum_in (a b : Nat) (ha : a ≤ 1048576) (hb : b ≤ 1048576) : IntKind.i64.wrap ((a : Int) + (b : Int)) = (a : Int) + (b : Int) := IntWalk.i64_in _ (by omega)
set_option maxHeartbeats 4000000 in
set_option maxRecDepth 100000 in
theorem tells36_cfg (mn mx sw : Int) (ts : List Tk) (ls : List Ln) (hs : List Th) (A : Option Addr) (ca : Nat) (B : Option Addr) (cb : Nat) (D : Option Addr) (cd : Nat) (q : List Int) (Q : Option Addr) (cq : Nat) (w : World)
    (hlt0 : ts.length ≤ 1048576) (hll : ls.length ≤ 1048576) (hlh : hs.length ≤ 1048576) (hlq : q.length ≤ 1048576)
    (ht : Rd w A (ts.flatMap tkc)) (hl : Rd w B (ls.flatMap lnc)) (hh : Rd w D (hs.flatMap thc)) (hQ : Rd w Q (q.map (.int .i64))) (hmx : I64 mx) (ht64 : ∀ p ∈ ts.map (·.prio) ++ hs.map (·.prio), I64 p) :
    Calls Tryz.prog 3 #[cfv mn mx sw A ts.length ca B ls.length cb D hs.length cd, .slice Q q.length cq] w fun e w' => e = .returned (.bool true) ∧ Below w.heap.size w w' := by
  have c0 := Lib.hid (fun w => lives36 w)
  obtain ⟨a1, a2, a3, T1, L1, H1, n1, n2, n3, hA⟩ := unic_of (asgY mn mx sw ts ls hs) mn mx sw ts.length (asgT mn mx sw ts ls hs) (putP_len ..) ls hs
  obtain ⟨b1, b2, b3, T2, L2, H2, n4, n5, n6, hW⟩ := unic_of (if q.length = ts.length then 0 else 2) mn mx sw ts.length (putP ts q) (putP_len ..) ls hs
  obtain ⟨od, n7, hO⟩ := unio_of (Cf.why ⟨mn, mx, sw, ts, ls, hs⟩) ts
  have c1 := Lib.hid (fun w ht hl hh => (assign_any mn mx sw ts ls hs A ca B cb D cd w hlt0 hll hlh ht hl hh hmx ht64).mono fun e w' h => hA w e w' h)
  have c2 := Lib.hid (fun w ht hl hh => (assign36r_any mn mx sw ts ls hs A ca B cb D cd w hlt0 hll hlh ht hl hh hmx).mono fun e w' h => hA w e w' h)
  have c3 := Lib.hid (fun w ht hl hh => (order_any mn mx sw ts ls hs A ca B cb D cd w hlt0 hll hlh ht hl hh hmx ht64).mono fun e w' h => hO w e w' h)
  have c4 := Lib.hid (fun w ht hl hh => (order36r_any mn mx sw ts ls hs A ca B cb D cd w hlt0 hll hlh ht hl hh hmx).mono fun e w' h => hO w e w' h)
  have c5 := Lib.hid (fun w ht hl hh hq => (with36_any mn mx sw ts ls hs A ca B cb D cd q Q cq w hlt0 hll hlh hlq ht hl hh hq).mono fun e w' h => hW w e w' h)
  have c6 := Lib.hid (fun w ht hl hh hq => (with36r_any mn mx sw ts ls hs A ca B cb D cd q Q cq w hlt0 hll hlh hlq ht hl hh hq).mono fun e w' h => hW w e w' h)
  have s1 := Lib.hid (fun A ca B cb D cd A' ca' B' cb' D' cd' w h1 h2 h3 h4 h5 h6 => same26_one a1 a2 a3 T1 L1 H1 A ca B cb D cd A' ca' B' cb' D' cd' w (by omega) (by omega) (by omega) h1 h2 h3 h4 h5 h6)
  have s2 := Lib.hid (fun A ca B cb D cd A' ca' B' cb' D' cd' w h1 h2 h3 h4 h5 h6 => same26_one b1 b2 b3 T2 L2 H2 A ca B cb D cd A' ca' B' cb' D' cd' w (by omega) (by omega) (by omega) h1 h2 h3 h4 h5 h6)
  have s3 := Lib.hid (fun P c P' c' w h1 h2 => same_eq P c P' c' od w (by omega) h1 h2)
  have Ht := Lib.hid ht; have Hl := Lib.hid hl; have Hh := Lib.hid hh; have HQ := Lib.hid hQ
  have e1 := sum_in ts.length ls.length hlt0 hll
  clear ht hl hh hQ hA hW hO hmx ht64 n1 n2 n3 n4 n5 n6 n7
  generalize asgY mn mx sw ts ls hs = y1 at *
  generalize (if q.length = ts.length then (0 : Int) else 2) = y2 at *
  generalize Cf.why ⟨mn, mx, sw, ts, ls, hs⟩ = y3 at *
  unfold UniC UniO cfv at *
  go_enter Tryz.func3, Tryz.ntmps3
  go_upto_region 1 with fail
  refine name_world fun V0 hV => ?_
  have HC : Hid (V0.heap[w.heap.size]? = some (.cells #[.int .i64 mn, .int .i64 mx, .int .i64 sw, .slice A ts.length ca, .slice B ls.length cb, .slice D hs.length cd] 28 (0, 0))) := Lib.hid (by rw [hV]; exact heap_alloc_new w _)
  have HB : Hid (Below w.heap.size w V0) := Lib.hid (by rw [hV]; exact (Below.refl _ _).alloc (Nat.le_refl _) _)
  clear hV
  obtain ⟨cx, cy⟩ := box_rules HC.out
  by_cases hbig : (40 : Int) < (ts.length : Int) + (ls.length : Int) + (hs.length : Int)
  · go_wp2_with (go_at_call 7; refine (c0.out _).mono ?_; rintro e w1 ⟨rfl, hb⟩; have HB1 := Lib.hid (HB.out.trans (hb.mono HB.out.size)); clear hb)
    go_ret
    exact ⟨rfl, HB1.out⟩
  · have K0 : Hid (Below V0.heap.size V0 V0) := Lib.hid (Below.refl _ _)
    have HBk := (HB.out.trans (K0.out.mono HB.out.size))
    have F1 := Lib.hid (c1.out V0 (Ht.out.below HBk) (Hl.out.below HBk) (Hh.out.below HBk))
    clear HBk c1
    go_wp2_with fail
    refine F1.out.mono ?_
    rintro e w1 ⟨A1, ca1, B1, cb1, D1, cd1, rfl, r1, r2, r3, hb⟩
    go_upto_region 4 with fail
    refine name_world fun V1 hV => ?_
    have hbk : Below V0.heap.size V0 V1 := by rw [hV]; exact hb.alloc hb.size _
    have hbw : Below w1.heap.size w1 V1 := by rw [hV]; exact (Below.refl _ _).alloc (Nat.le_refl _) _
    have X1 : Hid (V1.heap[w1.heap.size]? = some (.cells #[.int .i64 a1, .int .i64 a2, .int .i64 a3, .slice A1 T1.length ca1, .slice B1 L1.length cb1, .slice D1 H1.length cd1] 28 (0, 0))) := Lib.hid (by rw [hV]; exact heap_alloc_new _ _)
    have R11 := Lib.hid (r1.below hbw)
    have R12 := Lib.hid (r2.below hbw)
    have R13 := Lib.hid (r3.below hbw)
    clear hbw r1 r2 r3 hb hV F1 cx cy
    generalize w1.heap.size = z1 at *
    have K0 := Lib.hid (K0.out.trans (hbk.mono K0.out.size))
    have K1 : Hid (Below V1.heap.size V1 V1) := Lib.hid (Below.refl _ _)
    clear hbk
    obtain ⟨cx, cy⟩ := box_rules (box_keep HC.out K0.out)
    have HBk := (HB.out.trans (K0.out.mono HB.out.size))
    have F2 := Lib.hid (c2.out V1 (Ht.out.below HBk) (Hl.out.below HBk) (Hh.out.below HBk))
    clear HBk c2
    go_wp2_with fail
    refine F2.out.mono ?_
    rintro e w2 ⟨A2, ca2, B2, cb2, D2, cd2, rfl, r1, r2, r3, hb⟩
    go_upto_region 5 with fail
    refine name_world fun V2 hV => ?_
    have hbk : Below V1.heap.size V1 V2 := by rw [hV]; exact hb.alloc hb.size _
    have hbw : Below w2.heap.size w2 V2 := by rw [hV]; exact (Below.refl _ _).alloc (Nat.le_refl _) _
    have X2 : Hid (V2.heap[w2.heap.size]? = some (.cells #[.int .i64 a1, .int .i64 a2, .int .i64 a3, .slice A2 T1.length ca2, .slice B2 L1.length cb2, .slice D2 H1.length cd2] 28 (0, 0))) := Lib.hid (by rw [hV]; exact heap_alloc_new _ _)
    have R21 := Lib.hid (r1.below hbw)
    have R22 := Lib.hid (r2.below hbw)
    have R23 := Lib.hid (r3.below hbw)
    clear hbw r1 r2 r3 hb hV F2 cx cy
    generalize w2.heap.size = z2 at *
    have K0 := Lib.hid (K0.out.trans (hbk.mono K0.out.size))
    have K1 := Lib.hid (K1.out.trans (hbk.mono K1.out.size))
    have K2 : Hid (Below V2.heap.size V2 V2) := Lib.hid (Below.refl _ _)
    clear hbk
    obtain ⟨cx, cy⟩ := box_rules (box_keep HC.out K0.out)
    have HBk := (HB.out.trans (K0.out.mono HB.out.size))
    have F3 := Lib.hid (c3.out V2 (Ht.out.below HBk) (Hl.out.below HBk) (Hh.out.below HBk))
    clear HBk c3
    go_wp2_with fail
    refine F3.out.mono ?_
    rintro e V3 ⟨P3, cp3, rfl, r1, hbk⟩
    have R31 := Lib.hid r1
    clear r1 F3 cx cy
    have K0 := Lib.hid (K0.out.trans (hbk.mono K0.out.size))
    have K1 := Lib.hid (K1.out.trans (hbk.mono K1.out.size))
    have K2 := Lib.hid (K2.out.trans (hbk.mono K2.out.size))
    have K3 : Hid (Below V3.heap.size V3 V3) := Lib.hid (Below.refl _ _)
    clear hbk
    obtain ⟨cx, cy⟩ := box_rules (box_keep HC.out K0.out)
    have HBk := (HB.out.trans (K0.out.mono HB.out.size))
    have F4 := Lib.hid (c4.out V3 (Ht.out.below HBk) (Hl.out.below HBk) (Hh.out.below HBk))
    clear HBk c4
    go_wp2_with fail
    refine F4.out.mono ?_
    rintro e V4 ⟨P4, cp4, rfl, r1, hbk⟩
    have R41 := Lib.hid r1
    clear r1 F4 cx cy
    have K0 := Lib.hid (K0.out.trans (hbk.mono K0.out.size))
    have K1 := Lib.hid (K1.out.trans (hbk.mono K1.out.size))
    have K2 := Lib.hid (K2.out.trans (hbk.mono K2.out.size))
    have K3 := Lib.hid (K3.out.trans (hbk.mono K3.out.size))
    have K4 : Hid (Below V4.heap.size V4 V4) := Lib.hid (Below.refl _ _)
    clear hbk
    obtain ⟨cx, cy⟩ := box_rules (box_keep HC.out K0.out)
    have HBk := (HB.out.trans (K0.out.mono HB.out.size))
    have F5 := Lib.hid (c5.out V4 (Ht.out.below HBk) (Hl.out.below HBk) (Hh.out.below HBk) (HQ.out.below HBk))
    clear HBk c5
    go_wp2_with fail
    refine F5.out.mono ?_
    rintro e w5 ⟨A5, ca5, B5, cb5, D5, cd5, rfl, r1, r2, r3, hb⟩
    go_upto_region 8 with fail
    refine name_world fun V5 hV => ?_
    have hbk : Below V4.heap.size V4 V5 := by rw [hV]; exact hb.alloc hb.size _
    have hbw : Below w5.heap.size w5 V5 := by rw [hV]; exact (Below.refl _ _).alloc (Nat.le_refl _) _
    have X5 : Hid (V5.heap[w5.heap.size]? = some (.cells #[.int .i64 b1, .int .i64 b2, .int .i64 b3, .slice A5 T2.length ca5, .slice B5 L2.length cb5, .slice D5 H2.length cd5] 28 (0, 0))) := Lib.hid (by rw [hV]; exact heap_alloc_new _ _)
    have R51 := Lib.hid (r1.below hbw)
    have R52 := Lib.hid (r2.below hbw)
    have R53 := Lib.hid (r3.below hbw)
    clear hbw r1 r2 r3 hb hV F5 cx cy
    generalize w5.heap.size = z5 at *
    have K0 := Lib.hid (K0.out.trans (hbk.mono K0.out.size))
    have K1 := Lib.hid (K1.out.trans (hbk.mono K1.out.size))
    have K2 := Lib.hid (K2.out.trans (hbk.mono K2.out.size))
    have K3 := Lib.hid (K3.out.trans (hbk.mono K3.out.size))
    have K4 := Lib.hid (K4.out.trans (hbk.mono K4.out.size))
    have K5 : Hid (Below V5.heap.size V5 V5) := Lib.hid (Below.refl _ _)
    clear hbk
    obtain ⟨cx, cy⟩ := box_rules (box_keep HC.out K0.out)
    have HBk := (HB.out.trans (K0.out.mono HB.out.size))
    have F6 := Lib.hid (c6.out V5 (Ht.out.below HBk) (Hl.out.below HBk) (Hh.out.below HBk) (HQ.out.below HBk))
    clear HBk c6
    go_wp2_with fail
    refine F6.out.mono ?_
    rintro e w6 ⟨A6, ca6, B6, cb6, D6, cd6, rfl, r1, r2, r3, hb⟩
    go_upto_region 9 with fail
    refine name_world fun V6 hV => ?_
    have hbk : Below V5.heap.size V5 V6 := by rw [hV]; exact hb.alloc hb.size _
    have hbw : Below w6.heap.size w6 V6 := by rw [hV]; exact (Below.refl _ _).alloc (Nat.le_refl _) _
    have X6 : Hid (V6.heap[w6.heap.size]? = some (.cells #[.int .i64 b1, .int .i64 b2, .int .i64 b3, .slice A6 T2.length ca6, .slice B6 L2.length cb6, .slice D6 H2.length cd6] 28 (0, 0))) := Lib.hid (by rw [hV]; exact heap_alloc_new _ _)
    have R61 := Lib.hid (r1.below hbw)
    have R62 := Lib.hid (r2.below hbw)
    have R63 := Lib.hid (r3.below hbw)
    clear hbw r1 r2 r3 hb hV F6 cx cy
    generalize w6.heap.size = z6 at *
    have K0 := Lib.hid (K0.out.trans (hbk.mono K0.out.size))
    have K1 := Lib.hid (K1.out.trans (hbk.mono K1.out.size))
    have K2 := Lib.hid (K2.out.trans (hbk.mono K2.out.size))
    have K3 := Lib.hid (K3.out.trans (hbk.mono K3.out.size))
    have K4 := Lib.hid (K4.out.trans (hbk.mono K4.out.size))
    have K5 := Lib.hid (K5.out.trans (hbk.mono K5.out.size))
    have K6 : Hid (Below V6.heap.size V6 V6) := Lib.hid (Below.refl _ _)
    clear hbk
    obtain ⟨cx, cy⟩ := box_rules (box_keep HC.out K0.out)
    obtain ⟨x1, x1f⟩ := box_rules (box_keep X1.out K1.out)
    obtain ⟨x2, x2f⟩ := box_rules (box_keep X2.out K2.out)
    obtain ⟨x5, x5f⟩ := box_rules (box_keep X5.out K5.out)
    obtain ⟨x6, x6f⟩ := box_rules (box_keep X6.out K6.out)
    go_wp2_with fail
    refine (c0.out _).mono ?_
    rintro e w7 ⟨rfl, hbk⟩
    have K0 := Lib.hid (K0.out.trans (hbk.mono K0.out.size))
    have K1 := Lib.hid (K1.out.trans (hbk.mono K1.out.size))
    have K2 := Lib.hid (K2.out.trans (hbk.mono K2.out.size))
    have K3 := Lib.hid (K3.out.trans (hbk.mono K3.out.size))
    have K4 := Lib.hid (K4.out.trans (hbk.mono K4.out.size))
    have K5 := Lib.hid (K5.out.trans (hbk.mono K5.out.size))
    have K6 := Lib.hid (K6.out.trans (hbk.mono K6.out.size))
    clear hbk cx cy x1 x1f x2 x2f x5 x5f x6 x6f
    obtain ⟨cx, cy⟩ := box_rules (box_keep HC.out K0.out)
    obtain ⟨x1, x1f⟩ := box_rules (box_keep X1.out K1.out)
    obtain ⟨x2, x2f⟩ := box_rules (box_keep X2.out K2.out)
    obtain ⟨x5, x5f⟩ := box_rules (box_keep X5.out K5.out)
    obtain ⟨x6, x6f⟩ := box_rules (box_keep X6.out K6.out)
    go_wp2_with fail
    refine (s1.out A1 ca1 B1 cb1 D1 cd1 A2 ca2 B2 cb2 D2 cd2 _ (R11.out.below K1.out) (R12.out.below K1.out) (R13.out.below K1.out) (R21.out.below K2.out) (R22.out.below K2.out) (R23.out.below K2.out)).mono ?_
    rintro e w8 ⟨rfl, hbk⟩
    have K0 := Lib.hid (K0.out.trans (hbk.mono K0.out.size))
    have K1 := Lib.hid (K1.out.trans (hbk.mono K1.out.size))
    have K2 := Lib.hid (K2.out.trans (hbk.mono K2.out.size))
    have K3 := Lib.hid (K3.out.trans (hbk.mono K3.out.size))
    have K4 := Lib.hid (K4.out.trans (hbk.mono K4.out.size))
    have K5 := Lib.hid (K5.out.trans (hbk.mono K5.out.size))
    have K6 := Lib.hid (K6.out.trans (hbk.mono K6.out.size))
    clear hbk cx cy x1 x1f x2 x2f x5 x5f x6 x6f
    obtain ⟨cx, cy⟩ := box_rules (box_keep HC.out K0.out)
    obtain ⟨x1, x1f⟩ := box_rules (box_keep X1.out K1.out)
    obtain ⟨x2, x2f⟩ := box_rules (box_keep X2.out K2.out)
    obtain ⟨x5, x5f⟩ := box_rules (box_keep X5.out K5.out)
    obtain ⟨x6, x6f⟩ := box_rules (box_keep X6.out K6.out)
    go_wp2_with fail
    refine (s3.out P3 cp3 P4 cp4 _ (R31.out.below K3.out) (R41.out.below K4.out)).mono ?_
    rintro e w9 ⟨rfl, k9, rfl⟩
    have K0 := Lib.hid (bdrewN K0.out k9)
    have K1 := Lib.hid (bdrewN K1.out k9)
    have K2 := Lib.hid (bdrewN K2.out k9)
    have K3 := Lib.hid (bdrewN K3.out k9)
    have K4 := Lib.hid (bdrewN K4.out k9)
    have K5 := Lib.hid (bdrewN K5.out k9)
    have K6 := Lib.hid (bdrewN K6.out k9)
    clear cx cy x1 x1f x2 x2f x5 x5f x6 x6f
    obtain ⟨cx, cy⟩ := box_rules (box_keep HC.out K0.out)
    obtain ⟨x1, x1f⟩ := box_rules (box_keep X1.out K1.out)
    obtain ⟨x2, x2f⟩ := box_rules (box_keep X2.out K2.out)
    obtain ⟨x5, x5f⟩ := box_rules (box_keep X5.out K5.out)
    obtain ⟨x6, x6f⟩ := box_rules (box_keep X6.out K6.out)
    go_wp2_with fail
    refine (s2.out A5 ca5 B5 cb5 D5 cd5 A6 ca6 B6 cb6 D6 cd6 _ (R51.out.below K5.out) (R52.out.below K5.out) (R53.out.below K5.out) (R61.out.below K6.out) (R62.out.below K6.out) (R63.out.below K6.out)).mono ?_
    rintro e w10 ⟨rfl, hbk⟩
    have K0 := Lib.hid (K0.out.trans (hbk.mono K0.out.size))
    clear hbk
    go_wp2
    go_ret
    exact ⟨by (first | rfl | simp), HB.out.trans (K0.out.mono HB.out.size)⟩
end Go.Proofs.YtgampofpabllbaaGreat

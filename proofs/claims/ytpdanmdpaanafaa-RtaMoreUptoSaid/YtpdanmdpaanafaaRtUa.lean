/- A bound without the tasks that are less urgent and hold nothing: plain laws, no program in sight. -/
import Derived.Test.YtpdanmdpaanafaaRtWiP
namespace Go.Proofs.Ytpdanmdpaanafaa
open Go.RowKit

theorem take_next {α : Type} {l : List α} {k : Nat} {d : α} (h : k < l.length) : l.take (k + 1) = l.take k ++ [l.getD k d] := by
  have e : l.getD k d = l[k] := by simp [List.getD, h]
  rw [e]; exact (List.take_append_getElem h).symm
theorem foldl_filter_skip {α β : Type} {f : β → α → β} {q : α → Bool} : ∀ {l : List α} {b : β}, (∀ t ∈ l, q t = false → ∀ a, f a t = a) → (l.filter q).foldl f b = l.foldl f b
  | [], _, _ => rfl
  | x :: l, b, h => by
    cases hq : q x with
    | true =>
      rw [List.filter_cons_of_pos hq, List.foldl_cons, List.foldl_cons]
      exact foldl_filter_skip fun t ht => h t (by simp [ht])
    | false =>
      rw [List.filter_cons_of_neg (by simp [hq]), List.foldl_cons, h x (by simp) hq]
      exact foldl_filter_skip fun t ht => h t (by simp [ht])
theorem foldl_congr' {α β : Type} {f g : β → α → β} : ∀ {l : List α} {b : β}, (∀ t ∈ l, ∀ a, f a t = g a t) → l.foldl f b = l.foldl g b
  | [], _, _ => rfl
  | x :: l, b, h => by
    rw [List.foldl_cons, List.foldl_cons, h x (by simp)]
    exact foldl_congr' fun t ht => h t (by simp [ht])
def ceilF (m : Int) (a : Int) (t : Tk) : Int := if t.lock = m then max a t.prio else a
def blockF (ts : List Tk) (p : Int) (a : Int) (t : Tk) : Int := if blockB ts p t then max a (t.hi - t.lo) else a
theorem ceilN_fold (ts : List Tk) (m : Int) : ∀ k, k ≤ ts.length → ceilN ts m k = (ts.take k).foldl (ceilF m) 0
  | 0, _ => rfl
  | k + 1, h => by
    rw [take_next (d := tk0) (by omega), List.foldl_append, ← ceilN_fold ts m k (by omega)]
    rfl
theorem blockN_fold (ts : List Tk) (p : Int) : ∀ k, k ≤ ts.length → blockN ts p k = (ts.take k).foldl (blockF ts p) 0
  | 0, _ => rfl
  | k + 1, h => by
    rw [take_next (d := tk0) (by omega), List.foldl_append, ← blockN_fold ts p k (by omega)]
    rfl
theorem urgL_map (mn sw : Int) (ts : List Tk) (p : Int) : ∀ k, k ≤ ts.length → urgL mn sw ts p k = ((ts.take k).filter fun t => decide (p < t.prio)).map (urgT mn sw)
  | 0, _ => rfl
  | k + 1, h => by
    rw [take_next (d := tk0) (by omega), List.filter_append, List.map_append, ← urgL_map mn sw ts p k (by omega)]
    show urgL mn sw ts p k ++ _ = _
    congr 1
    by_cases hp : p < (ts.getD k tk0).prio
    · rw [if_pos hp, List.filter_cons_of_pos (by simpa using hp)]; rfl
    · rw [if_neg hp, List.filter_cons_of_neg (by simpa using hp)]; rfl
/-- What stays: what is as urgent, or holds something. -/
def stays (p : Int) (t : Tk) : Bool := decide (p ≤ t.prio) || decide (0 ≤ t.lock)
theorem ceil_stays {ts : List Tk} {p m : Int} (hm : 0 ≤ m) : ceilN (ts.filter (stays p)) m (ts.filter (stays p)).length = ceilN ts m ts.length := by
  rw [ceilN_fold _ _ _ (Nat.le_refl _), ceilN_fold _ _ _ (Nat.le_refl _), List.take_length, List.take_length]
  refine foldl_filter_skip fun t _ hq a => ?_
  unfold stays at hq
  simp only [Bool.or_eq_false_iff, decide_eq_false_iff_not] at hq
  unfold ceilF
  rw [if_neg (by omega)]
theorem blockB_stays {ts : List Tk} {p : Int} (t : Tk) : blockB (ts.filter (stays p)) p t = blockB ts p t := by
  unfold blockB
  by_cases h : 0 ≤ t.lock
  · rw [ceil_stays h]
  · rw [decide_eq_false h]; simp
theorem block_stays {ts : List Tk} {p : Int} : blockN (ts.filter (stays p)) p (ts.filter (stays p)).length = blockN ts p ts.length := by
  rw [blockN_fold _ _ _ (Nat.le_refl _), blockN_fold _ _ _ (Nat.le_refl _), List.take_length, List.take_length]
  rw [foldl_congr' (f := blockF (ts.filter (stays p)) p) (g := blockF ts p) (fun t _ a => by unfold blockF; rw [blockB_stays])]
  refine foldl_filter_skip fun t _ hq a => ?_
  unfold stays at hq
  simp only [Bool.or_eq_false_iff, decide_eq_false_iff_not] at hq
  unfold blockF blockB
  rw [decide_eq_false hq.2]; simp
theorem urg_stays {mn sw : Int} {ts : List Tk} {p : Int} : urgL mn sw (ts.filter (stays p)) p (ts.filter (stays p)).length = urgL mn sw ts p ts.length := by
  rw [urgL_map _ _ _ _ _ (Nat.le_refl _), urgL_map _ _ _ _ _ (Nat.le_refl _), List.take_length, List.take_length, List.filter_filter]
  congr 1
  refine List.filter_congr fun t _ => ?_
  unfold stays
  by_cases h : p < t.prio
  · rw [decide_eq_true h, decide_eq_true (by omega : p ≤ t.prio)]; rfl
  · rw [decide_eq_false h]; rfl
theorem bound_stays (mn sw : Int) (ts : List Tk) (ls : List Ln) (hs : List Th) (x : Tk) : boundR mn sw (ts.filter (stays x.prio)) ls hs x = boundR mn sw ts ls hs x := by
  have h1 : baseN sw (ts.filter (stays x.prio)) x = baseN sw ts x := by unfold baseN; rw [block_stays]
  have h2 : loadsL mn sw (ts.filter (stays x.prio)) ls hs x.prio = loadsL mn sw ts ls hs x.prio := by unfold loadsL; rw [urg_stays]
  unfold boundR
  rw [h1, h2]
theorem first_zero_of : ∀ {l : List Fl}, (∀ f ∈ l, f.why = 0) → (firstOf l).1.why = 0
  | [], _ => rfl
  | g :: l, h => by
    rw [firstOf_cons, if_neg (by simp [h g (by simp)])]
    exact first_zero_of fun f hf => h f (by simp [hf])
theorem numb_mem {p : Int} : ∀ {l : List Int} {i : Nat} {f : Fl}, f ∈ numb p i l → f.why ∈ l
  | z :: l, i, f, h => by
    rcases List.mem_cons.1 (show f ∈ (⟨p, i, z⟩ : Fl) :: numb p (i + 1) l from h) with rfl | h
    · simp
    · exact List.mem_cons_of_mem _ (numb_mem h)
theorem prWhys_nodup : ∀ {s l : List Int}, l.Nodup → (∀ p ∈ l, p ∉ s) → ∀ y ∈ prWhys s l, y = 0
  | _, [], _, _, y, h => by cases h
  | s, p :: l, h1, h2, y, h => by
    rcases List.mem_cons.1 (show y ∈ (if p ∈ s then (12 : Int) else 0) :: prWhys (p :: s) l from h) with rfl | h
    · rw [if_neg (h2 p (by simp))]
    · obtain ⟨a, b⟩ := List.nodup_cons.1 h1
      refine prWhys_nodup b (fun q hq => ?_) y h
      intro hm
      rcases List.mem_cons.1 hm with rfl | hm
      · exact a hq
      · exact h2 q (by simp [hq]) hm
/-- A right configuration with some of its tasks is right. -/
theorem why_sub {mn mx sw : Int} {ts us : List Tk} {ls : List Ln} {hs : List Th} (h : Cf.why ⟨mn, mx, sw, ts, ls, hs⟩ = 0) (hu : us.Sublist ts) (h1 : 1 ≤ us.length) : Cf.why ⟨mn, mx, sw, us, ls, hs⟩ = 0 := by
  have hz := first_zero h
  have hc := cfIn_of h
  have hlen := hu.length_le
  have hnt := hc.nt
  have hnl := hc.nl
  have hnh := hc.nh
  dsimp only at hnt hnl hnh
  refine first_zero_of fun f hf => ?_
  unfold Cf.looks Cf.heads at hf
  rcases List.mem_append.1 hf with hf | hf
  · rcases List.mem_cons.1 hf with rfl | hf
    · exact hz ⟨1, 0, tmWhy mn mx⟩ (by simp [Cf.looks, Cf.heads])
    rcases List.mem_cons.1 hf with rfl | hf
    · exact hz ⟨2, 0, chWhy sw⟩ (by simp [Cf.looks, Cf.heads])
    rcases List.mem_cons.1 hf with rfl | hf
    · show mnWhy _ _ _ = 0
      unfold mnWhy
      rw [if_pos (by dsimp only; omega)]
    · cases hf
  rcases List.mem_append.1 hf with hf | hf
  · obtain ⟨t, ht, e⟩ := List.mem_map.1 (numb_mem hf)
    obtain ⟨g, hg, e2⟩ := numb_has (p := 4) (i := 0) (l := ts.map fun t => tkWhy t sw) (List.mem_map.2 ⟨t, hu.subset ht, rfl⟩)
    rw [← e, ← e2]
    exact hz g (by unfold Cf.looks; simp [hg])
  rcases List.mem_append.1 hf with hf | hf
  · exact hz f (by unfold Cf.looks; simp [hf])
  rcases List.mem_append.1 hf with hf | hf
  · exact hz f (by unfold Cf.looks; simp [hf])
  · refine prWhys_nodup ?_ (by simp) _ (numb_mem hf)
    have hn := hc.nodup
    unfold Cf.prios at hn ⊢
    exact hn.sublist ((hu.map _).append (List.Sublist.refl _))
/-- Where a task that stays stands. -/
theorem getD_stays {ts : List Tk} {q : Tk → Bool} {i : Nat} (hi : i < ts.length) (hq : q (ts.getD i tk0) = true) :
    ((ts.take i).filter q).length < (ts.filter q).length ∧ (ts.filter q).getD ((ts.take i).filter q).length tk0 = ts.getD i tk0 := by
  have e : ts = ts.take i ++ ts.getD i tk0 :: ts.drop (i + 1) := by
    have h1 : ts.getD i tk0 = ts[i] := by simp [List.getD, hi]
    rw [h1, ← List.drop_eq_getElem_cons hi, List.take_append_drop]
  have e2 : ts.filter q = (ts.take i).filter q ++ ts.getD i tk0 :: (ts.drop (i + 1)).filter q := by
    conv => lhs; rw [e]
    rw [List.filter_append, List.filter_cons_of_pos hq]
  rw [e2]
  refine ⟨by simp, ?_⟩
  simp [List.getD]
/-- The whole: the answers for the task are the same. -/
theorem urgent_same {mn mx sw : Int} {ts : List Tk} {ls : List Ln} {hs : List Th} {i : Nat} (h : Cf.why ⟨mn, mx, sw, ts, ls, hs⟩ = 0) (hi : i < ts.length) :
    let us := ts.filter (stays (ts.getD i tk0).prio)
    let n := ((ts.take i).filter (stays (ts.getD i tk0).prio)).length
    Cf.why ⟨mn, mx, sw, us, ls, hs⟩ = 0 ∧ n < us.length ∧ us.getD n tk0 = ts.getD i tk0 ∧ boundR mn sw us ls hs (us.getD n tk0) = boundR mn sw ts ls hs (ts.getD i tk0) := by
  intro us n
  obtain ⟨h1, h2⟩ := getD_stays (q := stays (ts.getD i tk0).prio) hi (by unfold stays; simp)
  refine ⟨why_sub h List.filter_sublist (by have := h1; show 1 ≤ (ts.filter _).length; omega), h1, h2, ?_⟩
  rw [h2]
  exact bound_stays ..
end Go.Proofs.Ytpdanmdpaanafaa

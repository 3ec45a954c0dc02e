/- What a bound is: plain laws, no program in sight. -/
import Derived.Test.YtlnjeelbfokdpaaRtSQ
import Derived.Test.YtlnjeelbfokdpaaSeM2
import Derived.Test.YtlnjeelbfokdpaaSeM3
import Derived.Deep.DeepCutAuto
namespace Go.Proofs.Ytlnjeelbfokdpaa
open Go.RowKit

theorem stGo_fix {base : Int} {l : List Ld} {limit r : Int} : ∀ {f : Nat} {t : Int}, stGo base l limit f t = (r, 0) → r ≤ limit ∧ roundWhy base l r = 0 ∧ roundN base l r = r
  | 0, _, h => by cases h
  | f + 1, t, h => by
    unfold stGo at h
    split at h
    · cases h
    · split at h
      · rename_i h2
        injection h with _ h3
        exact absurd h3 h2
      · split at h
        · rename_i h1 h2 h3
          injection h with h4 _
          subst h4
          exact ⟨by omega, by simpa using h2, h3⟩
        · exact stGo_fix h
/-- A search that ends well ends at a time that is the base and all that comes in that time. -/
theorem steps_fix {base : Int} {l : List Ld} {limit : Int} (h : (stepsY base l limit).2 = 0) :
    1 ≤ base ∧ base ≤ (stepsY base l limit).1 ∧ (stepsY base l limit).1 ≤ limit ∧ limit ≤ 4503599627370496 ∧ allWhy l (stepsY base l limit).1 = 0 ∧ base + allN l (stepsY base l limit).1 = (stepsY base l limit).1 := by
  generalize hS : stepsY base l limit = S at *
  obtain ⟨r, y⟩ := S
  dsimp only at h ⊢
  subst h
  unfold stepsY at hS
  split at hS
  · cases hS
  · split at hS
    · cases hS
    · rename_i h1 h2
      obtain ⟨a1, a2, a3⟩ := stGo_fix hS
      obtain ⟨b1, b2, b3, b4, b5, b6, b7⟩ := round_zero a2
      have hlim : inB limit 0 4503599627370496 = true := by
        rw [← Bool.not_eq_false]; exact fun e => h2 (.inr e)
      have h8 := totK_nonneg (lds_in b1).2 (inB_true.1 b3) (j := 0) l.length (Nat.zero_le _) (Nat.le_refl _)
      have h9 : totK l r 0 = 0 := rfl
      have h10 := (inB_true.1 b2).1
      have h11 := (inB_true.1 hlim).2
      refine ⟨h10, by omega, a1, h11, b4, by omega⟩
/-- A bound: what it is made of. -/
theorem bound_fix {mn sw : Int} {ts : List Tk} {ls : List Ln} {hs : List Th} {x : Tk} (hd : x.deadline ≤ 1099511627776) (hm : 0 ≤ lagT mn x) (h : (boundR mn sw ts ls hs x).2 = 0) :
    ∃ r : Int, (boundR mn sw ts ls hs x).1 = r + lagT mn x ∧ 1 ≤ baseN sw ts x ∧ baseN sw ts x ≤ r ∧ r ≤ x.deadline - lagT mn x ∧ allWhy (loadsL mn sw ts ls hs x.prio) r = 0 ∧ baseN sw ts x + allN (loadsL mn sw ts ls hs x.prio) r = r := by
  unfold boundR at *
  split at h
  · cases h
  · split at h
    · rename_i h1 h2
      obtain ⟨a1, a2, a3, a4, a5, a6⟩ := steps_fix h2
      rw [if_neg h1, if_pos h2]
      refine ⟨_, ?_, a1, a2, a3, a5, a6⟩
      dsimp only
      unfold wrap64
      omega
    · rename_i h1 h2
      exact absurd h h2
theorem bound_no {mn sw : Int} {ts : List Tk} {ls : List Ln} {hs : List Th} {x : Tk} (h : (boundR mn sw ts ls hs x).2 ≠ 0) : (boundR mn sw ts ls hs x).1 = 0 := by
  unfold boundR at *
  split
  · rfl
  · split
    · rename_i h1 h2
      rw [if_neg h1, if_pos h2] at h
      exact absurd rfl h
    · rfl
end Go.Proofs.Ytlnjeelbfokdpaa
/- The least deadline that is borne: plain laws, no program in sight. -/
namespace Go.Proofs.Ytlnjeelbfokdpaa
open Go.RowKit

theorem stGo_lim {base : Int} {l : List Ld} {L M r : Int} (hr : r ≤ M) (hb : 0 ≤ base) (hl : ldsWhy l = 0) : ∀ {f : Nat} {t : Int}, 0 ≤ t → (roundWhy base l t = 0 → t ≤ roundN base l t) → stGo base l L f t = (r, 0) → t ≤ r ∧ stGo base l M f t = (r, 0)
  | 0, _, _, _, h => by cases h
  | f + 1, t, h0, h1, h => by
    unfold stGo at h
    split at h
    · cases h
    · split at h
      · rename_i h2
        injection h with _ h3
        exact absurd h3 h2
      · rename_i g1 g2
        have g3 : roundWhy base l t = 0 := by simpa using g2
        split at h
        · rename_i h3
          injection h with h4 _
          subst h4
          refine ⟨Int.le_refl _, ?_⟩
          show (if M < t then _ else _) = _
          rw [if_neg (by omega), if_neg g2, if_pos h3]
        · rename_i h3
          have ht := h1 g3
          obtain ⟨a, b⟩ := stGo_lim hr hb hl (f := f) (t := roundN base l t) (by omega) (fun h5 => by
            obtain ⟨_, _, _, _, _, b6, b7⟩ := round_zero g3
            obtain ⟨_, _, _, _, _, c6, c7⟩ := round_zero h5
            have hm := totK_mono (lds_in hl).2 h0 ht l.length (Nat.le_refl _)
            rw [c6, c7]
            omega) h
          refine ⟨by omega, ?_⟩
          show (if M < t then _ else _) = _
          rw [if_neg (by omega), if_neg g2, if_neg h3]
          exact b
theorem steps_lim {base : Int} {l : List Ld} {L M r : Int} (h : stepsY base l L = (r, 0)) (hr : r ≤ M) (hM : 0 ≤ M ∧ M ≤ 4503599627370496) : stepsY base l M = (r, 0) := by
  unfold stepsY at h ⊢
  split at h
  · cases h
  · split at h
    · cases h
    · rename_i h1 h2
      have e1 : ldsWhy l = 0 := by simpa using h1
      have e2 : inB base 1 4503599627370496 = true := by
        rw [← Bool.not_eq_false]; exact fun e => h2 (.inl e)
      have e3 : inB M 0 4503599627370496 = true := inB_true.2 hM
      have h3 := inB_true.1 e2
      rw [if_neg h1, if_neg (by rw [e2, e3]; simp)]
      refine (stGo_lim hr (by omega) e1 (by omega) (fun h5 => ?_) h).2
      obtain ⟨b1, _, b3, _, _, b6, b7⟩ := round_zero h5
      have h8 := totK_nonneg (lds_in b1).2 (inB_true.1 b3) (j := 0) l.length (Nat.zero_le _) (Nat.le_refl _)
      have h9 : totK l base 0 = 0 := rfl
      rw [b6, b7]
      omega
/-- Of a deadline, only what is beyond the bound matters. -/
theorem bound_dl {mn sw : Int} {ts : List Tk} {ls : List Ln} {hs : List Th} {x : Tk} {d : Int} (hd : x.deadline ≤ 1099511627776) (hm : 0 ≤ lagT mn x) (h : (boundR mn sw ts ls hs x).2 = 0) (hd2 : d ≤ x.deadline) :
    ((boundR mn sw ts ls hs x).1 ≤ d → (boundR mn sw ts ls hs { x with deadline := d }).2 = 0) ∧ (d < (boundR mn sw ts ls hs x).1 → (boundR mn sw ts ls hs { x with deadline := d }).2 ≠ 0) := by
  obtain ⟨r, hr1, hr2, hr3, hr4, hr5, hr6⟩ := bound_fix hd hm h
  have hx : stepsY (baseN sw ts x) (loadsL mn sw ts ls hs x.prio) (x.deadline - lagT mn x) = (r, 0) := by
    unfold boundR at h hr1
    by_cases h1 : x.deadline < lagT mn x
    · rw [if_pos h1] at h; cases h
    · rw [if_neg h1] at h hr1
      by_cases h2 : (stepsY (baseN sw ts x) (loadsL mn sw ts ls hs x.prio) (x.deadline - lagT mn x)).2 = 0
      · rw [if_pos h2] at hr1
        obtain ⟨a1, a2, a3, a4, a5, a6⟩ := steps_fix h2
        dsimp only at hr1
        generalize hS : stepsY (baseN sw ts x) (loadsL mn sw ts ls hs x.prio) (x.deadline - lagT mn x) = S at *
        obtain ⟨s, y⟩ := S
        dsimp only at *
        unfold wrap64 at hr1
        have : s = r := by omega
        rw [this, h2]
      · rw [if_neg h2] at h; exact absurd h h2
  rw [hr1]
  have eL : lagT mn { x with deadline := d } = lagT mn x := rfl
  have eB : baseN sw ts { x with deadline := d } = baseN sw ts x := rfl
  refine ⟨fun hle => ?_, fun hlt hz => ?_⟩
  · unfold boundR
    rw [eL, eB]
    dsimp only
    rw [if_neg (by omega), steps_lim hx (M := d - lagT mn x) (by omega) (by omega)]
    rfl
  · have hd3 : ({ x with deadline := d } : Tk).deadline ≤ 1099511627776 := by show d ≤ _; omega
    have hy : (stepsY (baseN sw ts x) (loadsL mn sw ts ls hs x.prio) (d - lagT mn x)).2 = 0 ∧ lagT mn x ≤ d := by
      unfold boundR at hz
      rw [eL, eB] at hz
      dsimp only at hz
      by_cases h1 : d < lagT mn x
      · rw [if_pos h1] at hz; cases hz
      · rw [if_neg h1] at hz
        by_cases h2 : (stepsY (baseN sw ts x) (loadsL mn sw ts ls hs x.prio) (d - lagT mn x)).2 = 0
        · exact ⟨h2, by omega⟩
        · rw [if_neg h2] at hz; exact absurd hz h2
    obtain ⟨a1, a2, a3, a4, a5, a6⟩ := steps_fix hy.1
    have e : stepsY (baseN sw ts x) (loadsL mn sw ts ls hs x.prio) (d - lagT mn x) = ((stepsY (baseN sw ts x) (loadsL mn sw ts ls hs x.prio) (d - lagT mn x)).1, 0) := by
      rw [← hy.1]
    have h9 := steps_lim e (M := x.deadline - lagT mn x) (by omega) (by omega)
    rw [hx] at h9
    injection h9 with h10 _
    omega
/-! a task's deadline put -/
def tkDl (ts : List Tk) (i : Nat) (n : Int) : List Tk := ts.set i { ts.getD i tk0 with deadline := n }
theorem tkDl_len (ts : List Tk) (i : Nat) (n : Int) : (tkDl ts i n).length = ts.length := by simp [tkDl]
theorem tkDl_at {ts : List Tk} {i : Nat} (h : i < ts.length) (n : Int) : (tkDl ts i n).getD i tk0 = { ts.getD i tk0 with deadline := n } := getD_set_at h
theorem getD_set_off {α : Type} {d y : α} : ∀ {l : List α} {i k : Nat}, i ≠ k → (l.set i y).getD k d = l.getD k d
  | [], _, _, _ => rfl
  | _ :: _, 0, 0, h => absurd rfl h
  | _ :: _, 0, _ + 1, _ => rfl
  | _ :: _, _ + 1, 0, _ => rfl
  | _ :: l, i + 1, k + 1, h => getD_set_off (l := l) (i := i) (k := k) (by omega)
theorem tkDl_off {ts : List Tk} {i k : Nat} (h : i ≠ k) (n : Int) : (tkDl ts i n).getD k tk0 = ts.getD k tk0 := getD_set_off h
theorem tkDl_get {ts : List Tk} {i : Nat} (hi : i < ts.length) (n : Int) (k : Nat) : ∃ d, (tkDl ts i n).getD k tk0 = { ts.getD k tk0 with deadline := d } := by
  by_cases e : i = k
  · subst e; exact ⟨n, tkDl_at hi n⟩
  · exact ⟨(ts.getD k tk0).deadline, tkDl_off e n⟩
theorem tkDl_ceil {ts : List Tk} {i : Nat} (hi : i < ts.length) (n m : Int) : ∀ k, ceilN (tkDl ts i n) m k = ceilN ts m k
  | 0 => rfl
  | k + 1 => by
    obtain ⟨d, e⟩ := tkDl_get hi n k
    show (if ((tkDl ts i n).getD k tk0).lock = m then max (ceilN (tkDl ts i n) m k) ((tkDl ts i n).getD k tk0).prio else ceilN (tkDl ts i n) m k) = _
    rw [tkDl_ceil hi n m k, e]
    rfl
theorem tkDl_block {ts : List Tk} {i : Nat} (hi : i < ts.length) (n p : Int) : ∀ k, blockN (tkDl ts i n) p k = blockN ts p k
  | 0 => rfl
  | k + 1 => by
    obtain ⟨d, e⟩ := tkDl_get hi n k
    have e2 : blockB (tkDl ts i n) p ((tkDl ts i n).getD k tk0) = blockB ts p (ts.getD k tk0) := by
      unfold blockB
      rw [tkDl_ceil hi, e, tkDl_len]
    show (if blockB (tkDl ts i n) p ((tkDl ts i n).getD k tk0) then max (blockN (tkDl ts i n) p k) (((tkDl ts i n).getD k tk0).hi - ((tkDl ts i n).getD k tk0).lo) else blockN (tkDl ts i n) p k) = _
    rw [tkDl_block hi n p k, e2, e]
    rfl
theorem tkDl_urg {mn sw : Int} {ts : List Tk} {i : Nat} (hi : i < ts.length) (n p : Int) : ∀ k, urgL mn sw (tkDl ts i n) p k = urgL mn sw ts p k
  | 0 => rfl
  | k + 1 => by
    obtain ⟨d, e⟩ := tkDl_get hi n k
    show urgL mn sw (tkDl ts i n) p k ++ (if p < ((tkDl ts i n).getD k tk0).prio then [urgT mn sw ((tkDl ts i n).getD k tk0)] else []) = _
    rw [tkDl_urg hi n p k, e]
    rfl
theorem tkDl_bound {mn sw : Int} {ts : List Tk} {ls : List Ln} {hs : List Th} {i : Nat} (hi : i < ts.length) (n : Int) (x : Tk) : boundR mn sw (tkDl ts i n) ls hs x = boundR mn sw ts ls hs x := by
  have h1 : baseN sw (tkDl ts i n) x = baseN sw ts x := by unfold baseN; rw [tkDl_block hi, tkDl_len]
  have h2 : loadsL mn sw (tkDl ts i n) ls hs x.prio = loadsL mn sw ts ls hs x.prio := by unfold loadsL; rw [tkDl_urg hi, tkDl_len]
  unfold boundR
  rw [h1, h2]
theorem tkDl_prios {ts : List Tk} {i : Nat} (hi : i < ts.length) (n : Int) : (tkDl ts i n).map (·.prio) = ts.map (·.prio) := by
  unfold tkDl
  rw [List.map_set]
  apply List.ext_getElem (by simp)
  intro k h1 h2
  simp only [List.getElem_set, List.getElem_map]
  split
  · rename_i e; subst e; simp [List.getD, hi]
  · rfl
theorem fz_of : ∀ {l : List Fl}, (∀ f ∈ l, f.why = 0) → (firstOf l).1.why = 0
  | [], _ => rfl
  | g :: l, h => by
    rw [firstOf_cons, if_neg (by simp [h g (by simp)])]
    exact fz_of fun f hf => h f (by simp [hf])
theorem numb_in {p : Int} : ∀ {l : List Int} {i : Nat} {f : Fl}, f ∈ numb p i l → f.why ∈ l
  | z :: l, i, f, h => by
    rcases List.mem_cons.1 (show f ∈ (⟨p, i, z⟩ : Fl) :: numb p (i + 1) l from h) with rfl | h
    · simp
    · exact List.mem_cons_of_mem _ (numb_in h)
theorem tkDl_why0 {t : Tk} {sw n : Int} (h : TkIn t sw) (h1 : t.cost + sw ≤ n) (h2 : n ≤ t.deadline) (hsw : 0 ≤ sw) : tkWhy { t with deadline := n } sw = 0 := by
  obtain ⟨k, p, r, l, pe, o, d, s, c, la, he⟩ := h
  unfold tkWhy
  dsimp only
  rw [inB_true.2 p, inB_true.2 r, inB_true.2 pe, inB_true.2 o, inB_true.2 (show 1 ≤ n ∧ n ≤ 1099511627776 by omega), inB_true.2 (show 1 ≤ t.cost ∧ t.cost ≤ n by omega)]
  rw [if_neg (by omega), if_neg (by simp; omega), if_neg (by simp), if_neg (by omega), if_neg (by omega), if_neg (by simp; omega), if_neg (by omega)]
theorem tkDl_why {mn mx sw : Int} {ts : List Tk} {ls : List Ln} {hs : List Th} {i : Nat} (h : Cf.why ⟨mn, mx, sw, ts, ls, hs⟩ = 0) (hi : i < ts.length) {n : Int} (h1 : (ts.getD i tk0).cost + sw ≤ n) (h2 : n ≤ (ts.getD i tk0).deadline) : Cf.why ⟨mn, mx, sw, tkDl ts i n, ls, hs⟩ = 0 := by
  have hz := first_zero h
  have hc := cfIn_of h
  have hsw := hc.sw
  dsimp only at hsw
  have hlen := tkDl_len ts i n
  refine fz_of fun f hf => ?_
  unfold Cf.looks Cf.heads at hf
  rcases List.mem_append.1 hf with hf | hf
  · rcases List.mem_cons.1 hf with rfl | hf
    · exact hz ⟨1, 0, tmWhy mn mx⟩ (by simp [Cf.looks, Cf.heads])
    rcases List.mem_cons.1 hf with rfl | hf
    · exact hz ⟨2, 0, chWhy sw⟩ (by simp [Cf.looks, Cf.heads])
    rcases List.mem_cons.1 hf with rfl | hf
    · show mnWhy (tkDl ts i n).length ls.length hs.length = 0
      rw [hlen]
      exact hz ⟨3, 0, mnWhy ts.length ls.length hs.length⟩ (by simp [Cf.looks, Cf.heads])
    · cases hf
  rcases List.mem_append.1 hf with hf | hf
  · obtain ⟨t, ht, e⟩ := List.mem_map.1 (numb_in hf)
    rw [← e]
    rcases List.mem_or_eq_of_mem_set (show t ∈ ts.set i _ from ht) with ht | rfl
    · obtain ⟨g, hg, e2⟩ := numb_has (p := 4) (i := 0) (l := ts.map fun t => tkWhy t sw) (List.mem_map.2 ⟨t, ht, rfl⟩)
      rw [← e2]
      exact hz g (by unfold Cf.looks; simp [hg])
    · exact tkDl_why0 (hc.ts _ (getD_mem hi)) h1 h2 hsw.1
  rcases List.mem_append.1 hf with hf | hf
  · exact hz f (by unfold Cf.looks; simp [hf])
  rcases List.mem_append.1 hf with hf | hf
  · exact hz f (by unfold Cf.looks; simp [hf])
  · refine hz f ?_
    have e : Cf.prios ⟨mn, mx, sw, tkDl ts i n, ls, hs⟩ = Cf.prios ⟨mn, mx, sw, ts, ls, hs⟩ := by unfold Cf.prios; dsimp only; rw [tkDl_prios hi]
    rw [e] at hf
    unfold Cf.looks
    simp [hf]
theorem acc_of {c : Cf} (h : c.why = 0) (hg : ∀ k, k < c.ts.length → (bdF c.mn c.sw c.ts c.ls c.hs k).2 = 0) : accB c = true := by
  unfold accB bndR
  rw [if_neg (by simp [h]), bd_done hg]
  rfl
theorem lag_in {mn : Int} (h : 0 ≤ mn) (t : Tk) : 0 ≤ lagT mn t := by unfold lagT; split <;> omega
/-- The whole: with the deadline that is told it is accepted, with one less it is not. -/
theorem least_edge {mn mx sw : Int} {ts : List Tk} {ls : List Ln} {hs : List Th} {i : Nat} (h : oyY ⟨mn, mx, sw, ts, ls, hs⟩ = 0) (hi : i < ts.length) :
    (0 ≤ deadS ⟨mn, mx, sw, ts, ls, hs⟩ i ∧ deadS ⟨mn, mx, sw, ts, ls, hs⟩ i ≤ (ts.getD i tk0).deadline ∧ (ts.getD i tk0).deadline ≤ 1099511627776) ∧ accB ⟨mn, mx, sw, tkDl ts i (deadS ⟨mn, mx, sw, ts, ls, hs⟩ i), ls, hs⟩ = true ∧ accB ⟨mn, mx, sw, tkDl ts i (deadS ⟨mn, mx, sw, ts, ls, hs⟩ i - 1), ls, hs⟩ = false := by
  obtain ⟨h1, h2⟩ := oyY_zero h
  have hc := cfIn_of h1
  have hmn := hc.mn; have hsw := hc.sw
  dsimp only at hmn hsw
  have hx : TkIn (ts.getD i tk0) sw := hc.ts _ (getD_mem (d := tk0) hi)
  have hg := acc_good h2 h1
  dsimp only at hg
  have c1 := hx.cost; have c2 := hx.deadline; have c3 := hx.late; have c4 := hx.period
  have hbi := hg i hi
  unfold bdF at hbi
  obtain ⟨r, e1, e2, e3, e4, -, -⟩ := bound_fix (show (ts.getD i tk0).deadline ≤ 1099511627776 by omega) (lag_in (by omega) _) hbi
  have hl := lag_in (show 0 ≤ mn by omega) (ts.getD i tk0)
  have eD : deadS ⟨mn, mx, sw, ts, ls, hs⟩ i = max (boundR mn sw ts ls hs (ts.getD i tk0)).1 ((ts.getD i tk0).cost + sw) := rfl
  generalize hN : deadS ⟨mn, mx, sw, ts, ls, hs⟩ i = N at *
  have hb := bound_dl (ts := ts) (ls := ls) (hs := hs) (x := ts.getD i tk0) (d := N) (show (ts.getD i tk0).deadline ≤ 1099511627776 by omega) hl hbi (by omega)
  refine ⟨by omega, acc_of (tkDl_why h1 hi (by omega) (by omega)) fun k hk => ?_, ?_⟩
  · dsimp only at hk ⊢
    rw [tkDl_len] at hk
    unfold bdF
    rw [tkDl_bound hi]
    by_cases e : i = k
    · subst e
      rw [tkDl_at hi]
      exact hb.1 (by omega)
    · rw [tkDl_off e]
      exact hg k hk
  · by_cases hw : Cf.why ⟨mn, mx, sw, tkDl ts i (N - 1), ls, hs⟩ = 0
    · have hi2 : i < (tkDl ts i (N - 1)).length := by rw [tkDl_len]; exact hi
      have hy : TkIn ((tkDl ts i (N - 1)).getD i tk0) sw := (cfIn_of hw).ts _ (getD_mem (d := tk0) hi2)
      rw [tkDl_at hi] at hy
      have hy1 := hy.late
      dsimp only at hy1
      cases ha : accB ⟨mn, mx, sw, tkDl ts i (N - 1), ls, hs⟩ with
      | false => rfl
      | true =>
        have hg2 := acc_good ha hw i hi2
        dsimp only at hg2
        unfold bdF at hg2
        rw [tkDl_bound hi, tkDl_at hi] at hg2
        exact absurd hg2 ((bound_dl (ts := ts) (ls := ls) (hs := hs) (x := ts.getD i tk0) (d := N - 1) (show (ts.getD i tk0).deadline ≤ 1099511627776 by omega) hl hbi (by omega)).2 (by omega))
    · exact acc_bad hw
end Go.Proofs.Ytlnjeelbfokdpaa
/- vergelaw37: the walk of SenseLeast. Conditions: lists that read. -/
namespace Go.Proofs.Ytlnjeelbfokdpaa
open Go.RowKit Go.Shelf

theorem costY_zero {c : Cf} {n : Int} (h : costY c n = 0) : oyY c = 0 ∧ 0 ≤ n ∧ n.toNat < c.ts.length := by
  unfold costY sY at h
  split at h
  · exact absurd h (by assumption)
  · split at h
    · cases h
    · rename_i h1 h2
      exact ⟨by simpa using h1, by omega, by omega⟩
theorem costY_late {c : Cf} {n : Int} (h : costY c n = 11) : accB c = false := by
  unfold costY sY at h
  split at h
  · unfold oyY at h
    split at h
    · rename_i h1 h2
      exact acc_bad h2
    · rename_i h1 h2
      split at h
      · cases h
      · rename_i h3; simpa using h3
  · split at h <;> cases h
theorem bx1 {W w' : World} {z : Obj} (h : Below (W.alloc z).heap.size (W.alloc z) w') : w'.heap[W.heap.size]? = some z := box_new h
theorem bx2 {W w' : World} {z z' : Obj} (h : Below ((W.alloc z).alloc z').heap.size ((W.alloc z).alloc z') w') : w'.heap[W.heap.size]? = some z ∧ w'.heap[W.heap.size + 1]? = some z' :=
  ⟨box_keep (box_alloc (heap_alloc_new W z) z') h, box_keep (heap_new_at z' (by simp)) h⟩
theorem bk1 {W w' : World} {b : Nat} {o : Obj} (h : Below W.heap.size W w') (hx : W.heap[b]? = some o) : w'.heap[b]? = some o := box_keep hx h
theorem bk3 {W w' : World} {b : Nat} {o z : Obj} (h : Below (W.alloc z).heap.size (W.alloc z) w') (hx : W.heap[b]? = some o) : w'.heap[b]? = some o := box_keep (box_alloc hx _) h
theorem bk2 {W w' : World} {b b' : Nat} {o o' : Obj} (h : Below W.heap.size W w') (hx : W.heap[b]? = some o ∧ W.heap[b']? = some o') : w'.heap[b]? = some o ∧ w'.heap[b']? = some o' := ⟨box_keep hx.1 h, box_keep hx.2 h⟩
theorem bdrew {B : Nat} {a w : World} (h : Below B a w) : Below B a w.drew := ⟨h.os, h.tape, h.output, h.size, h.block⟩
/-- Two copies, each with its own rows. -/
structure LeI (mn mx sw : Int) (nt nl nh bd be base : Nat) (A2 : Option Addr) (c2 : Nat) (B2 : Option Addr) (d2 : Nat) (D2 : Option Addr) (e2 : Nat) (A3 : Option Addr) (c3 : Nat) (B3 : Option Addr) (d3 : Nat) (D3 : Option Addr) (e3 : Nat) (w : World) (T U : List Tk) (L : List Ln) (H : List Th) (wx : World) : Prop where
  boxd : wx.heap[bd]? = some (.cells #[.int .i64 mn, .int .i64 mx, .int .i64 sw, .slice A2 nt c2, .slice B2 nl d2, .slice D2 nh e2] 29 (0, 0))
  boxe : wx.heap[be]? = some (.cells #[.int .i64 mn, .int .i64 mx, .int .i64 sw, .slice A3 nt c3, .slice B3 nl d3, .slice D3 nh e3] 29 (0, 0))
  o1 : wx.ownsRow base 43 10 (.slice A2 nt c2) nt (T.flatMap tkc)
  o2 : wx.ownsRow base 49 4 (.slice B2 nl d2) nl (L.flatMap lnc)
  o3 : wx.ownsRow base 51 4 (.slice D2 nh e2) nh (H.flatMap thc)
  p1 : wx.ownsRow base 43 10 (.slice A3 nt c3) nt (U.flatMap tkc)
  p2 : wx.ownsRow base 49 4 (.slice B3 nl d3) nl (L.flatMap lnc)
  p3 : wx.ownsRow base 51 4 (.slice D3 nh e3) nh (H.flatMap thc)
  ne : ∀ g, (Value.slice A2 nt c2).ownBlock = some g → (Value.slice A3 nt c3).ownBlock ≠ some g
  low : Below w.heap.size w wx
  bl : w.heap.size ≤ base
section
variable {mn mx sw : Int} {nt nl nh bd be base : Nat} {c2 : Nat} {B2 : Option Addr} {d2 : Nat} {D2 : Option Addr} {e2 : Nat} {c3 : Nat} {B3 : Option Addr} {d3 : Nat} {D3 : Option Addr} {e3 : Nat} {w : World} {T U : List Tk} {L : List Ln} {H : List Th} {wx : World}
theorem LeI.putD {a : Addr} {A3 : Option Addr} (h : LeI mn mx sw nt nl nh bd be base (some a) c2 B2 d2 D2 e2 A3 c3 B3 d3 D3 e3 w T U L H wx) {m : Nat} (hm : m < T.length) (v : Int) :
    LeI mn mx sw nt nl nh bd be base (some a) c2 B2 d2 D2 e2 A3 c3 B3 d3 D3 e3 w (tkDl T m v) U L H (wx.setCell ⟨(a.add (m * 10)).block, (a.add (m * 10)).off + 4, none⟩ (.int .i64 v)) := by
  obtain ⟨b1, b2⟩ := own_blk h.o1 (m * 10)
  have b3 := own_apart_box h.o1 h.boxd (by decide)
  have b3' := own_apart_box h.o1 h.boxe (by decide)
  have b4 : bd ≠ (a.add (m * 10)).block := fun e => b3 (by rw [b2, e])
  have b4' : be ≠ (a.add (m * 10)).block := fun e => b3' (by rw [b2, e])
  have bl := h.bl
  refine ⟨box_far h.boxd (p := ⟨(a.add (m * 10)).block, (a.add (m * 10)).off + 4, none⟩) b4 _, box_far h.boxe (p := ⟨(a.add (m * 10)).block, (a.add (m * 10)).off + 4, none⟩) b4' _, ?_, ?_, ?_, ?_, ?_, ?_, h.ne, h.low.setCell (p := ⟨(a.add (m * 10)).block, (a.add (m * 10)).off + 4, none⟩) (by show _ ≤ (a.add (m * 10)).block; omega) _, bl⟩
  · unfold tkDl
    rw [← flat_set (f := tkc) (k := 10) (fun _ => rfl) (d := tk0) T m 4 _ (.int .i64 v) hm (by decide) rfl]; exact own_put h.o1 (m * 10) 4 _
  · exact own_setK h.o2 (p := ⟨(a.add (m * 10)).block, (a.add (m * 10)).off + 4, none⟩) (own_apart h.o1 h.o2 (by decide) b2) _
  · exact own_setK h.o3 (p := ⟨(a.add (m * 10)).block, (a.add (m * 10)).off + 4, none⟩) (own_apart h.o1 h.o3 (by decide) b2) _
  · exact own_setK h.p1 (p := ⟨(a.add (m * 10)).block, (a.add (m * 10)).off + 4, none⟩) (h.ne _ b2) _
  · exact own_setK h.p2 (p := ⟨(a.add (m * 10)).block, (a.add (m * 10)).off + 4, none⟩) (own_apart h.o1 h.p2 (by decide) b2) _
  · exact own_setK h.p3 (p := ⟨(a.add (m * 10)).block, (a.add (m * 10)).off + 4, none⟩) (own_apart h.o1 h.p3 (by decide) b2) _
theorem LeI.putE {a : Addr} {A2 : Option Addr} (h : LeI mn mx sw nt nl nh bd be base A2 c2 B2 d2 D2 e2 (some a) c3 B3 d3 D3 e3 w T U L H wx) {m : Nat} (hm : m < U.length) (v : Int) :
    LeI mn mx sw nt nl nh bd be base A2 c2 B2 d2 D2 e2 (some a) c3 B3 d3 D3 e3 w T (tkDl U m v) L H (wx.setCell ⟨(a.add (m * 10)).block, (a.add (m * 10)).off + 4, none⟩ (.int .i64 v)) := by
  obtain ⟨b1, b2⟩ := own_blk h.p1 (m * 10)
  have b3 := own_apart_box h.p1 h.boxd (by decide)
  have b3' := own_apart_box h.p1 h.boxe (by decide)
  have b4 : bd ≠ (a.add (m * 10)).block := fun e => b3 (by rw [b2, e])
  have b4' : be ≠ (a.add (m * 10)).block := fun e => b3' (by rw [b2, e])
  have bl := h.bl
  refine ⟨box_far h.boxd (p := ⟨(a.add (m * 10)).block, (a.add (m * 10)).off + 4, none⟩) b4 _, box_far h.boxe (p := ⟨(a.add (m * 10)).block, (a.add (m * 10)).off + 4, none⟩) b4' _, ?_, ?_, ?_, ?_, ?_, ?_, h.ne, h.low.setCell (p := ⟨(a.add (m * 10)).block, (a.add (m * 10)).off + 4, none⟩) (by show _ ≤ (a.add (m * 10)).block; omega) _, bl⟩
  · exact own_setK h.o1 (p := ⟨(a.add (m * 10)).block, (a.add (m * 10)).off + 4, none⟩) (fun e => h.ne _ e b2) _
  · exact own_setK h.o2 (p := ⟨(a.add (m * 10)).block, (a.add (m * 10)).off + 4, none⟩) (own_apart h.p1 h.o2 (by decide) b2) _
  · exact own_setK h.o3 (p := ⟨(a.add (m * 10)).block, (a.add (m * 10)).off + 4, none⟩) (own_apart h.p1 h.o3 (by decide) b2) _
  · unfold tkDl
    rw [← flat_set (f := tkc) (k := 10) (fun _ => rfl) (d := tk0) U m 4 _ (.int .i64 v) hm (by decide) rfl]; exact own_put h.p1 (m * 10) 4 _
  · exact own_setK h.p2 (p := ⟨(a.add (m * 10)).block, (a.add (m * 10)).off + 4, none⟩) (own_apart h.p1 h.p2 (by decide) b2) _
  · exact own_setK h.p3 (p := ⟨(a.add (m * 10)).block, (a.add (m * 10)).off + 4, none⟩) (own_apart h.p1 h.p3 (by decide) b2) _
end
section
variable {w : World} {b : Nat} {v0 v1 v2 v3 v4 v5 : Value}
theorem set6_box {z0 z1 z2 z3 z4 z5 : Value} {t : TypeId} (h : w.heap[b]? = some (.cells #[z0, z1, z2, z3, z4, z5] t (0, 0))) : ((((((w.setCell ⟨b, 0, none⟩ v0).setCell ⟨b, 1, none⟩ v1).setCell ⟨b, 2, none⟩ v2).setCell ⟨b, 3, none⟩ v3).setCell ⟨b, 4, none⟩ v4).setCell ⟨b, 5, none⟩ v5).heap[b]? = some (.cells #[v0, v1, v2, v3, v4, v5] t (0, 0)) :=
  box_set (i := 5) (box_set (i := 4) (box_set (i := 3) (box_set (i := 2) (box_set (i := 1) (box_set (i := 0) h v0) v1) v2) v3) v4) v5
theorem set6_far {k : Nat} {o : Obj} (hk : k ≠ b) (h : w.heap[k]? = some o) : ((((((w.setCell ⟨b, 0, none⟩ v0).setCell ⟨b, 1, none⟩ v1).setCell ⟨b, 2, none⟩ v2).setCell ⟨b, 3, none⟩ v3).setCell ⟨b, 4, none⟩ v4).setCell ⟨b, 5, none⟩ v5).heap[k]? = some o :=
  box_far (p := ⟨b, 5, none⟩) (box_far (p := ⟨b, 4, none⟩) (box_far (p := ⟨b, 3, none⟩) (box_far (p := ⟨b, 2, none⟩) (box_far (p := ⟨b, 1, none⟩) (box_far (p := ⟨b, 0, none⟩) h hk v0) hk v1) hk v2) hk v3) hk v4) hk v5
theorem set6_row {base : Nat} {e : TypeId} {k : Nat} {v : Value} {n : Nat} {vs : List Value} (hne : v.ownBlock ≠ some b) (h : w.ownsRow base e k v n vs) : ((((((w.setCell ⟨b, 0, none⟩ v0).setCell ⟨b, 1, none⟩ v1).setCell ⟨b, 2, none⟩ v2).setCell ⟨b, 3, none⟩ v3).setCell ⟨b, 4, none⟩ v4).setCell ⟨b, 5, none⟩ v5).ownsRow base e k v n vs :=
  own_setK (p := ⟨b, 5, none⟩) (own_setK (p := ⟨b, 4, none⟩) (own_setK (p := ⟨b, 3, none⟩) (own_setK (p := ⟨b, 2, none⟩) (own_setK (p := ⟨b, 1, none⟩) (own_setK (p := ⟨b, 0, none⟩) h hne v0) hne v1) hne v2) hne v3) hne v4) hne v5
theorem set6_low {n : Nat} {a : World} (hn : n ≤ b) (h : Below n a w) : Below n a ((((((w.setCell ⟨b, 0, none⟩ v0).setCell ⟨b, 1, none⟩ v1).setCell ⟨b, 2, none⟩ v2).setCell ⟨b, 3, none⟩ v3).setCell ⟨b, 4, none⟩ v4).setCell ⟨b, 5, none⟩ v5) :=
  (((((h.setCell (p := ⟨b, 0, none⟩) hn v0).setCell (p := ⟨b, 1, none⟩) hn v1).setCell (p := ⟨b, 2, none⟩) hn v2).setCell (p := ⟨b, 3, none⟩) hn v3).setCell (p := ⟨b, 4, none⟩) hn v4).setCell (p := ⟨b, 5, none⟩) hn v5
theorem low_alloc {n : Nat} {a : World} {o : Obj} (hn : n ≤ w.heap.size) (h : Below n a w) : Below n a (w.alloc o) := h.alloc hn o
theorem row_ne {w1 : World} {base : Nat} {e : TypeId} {k : Nat} {v : Value} {n : Nat} {vs : List Value} (h : w1.ownsRow base e k v n vs) (hb : b < base ∨ w1.heap.size ≤ b) : v.ownBlock ≠ some b := fun e => by
  obtain ⟨h1, h2, _⟩ := own_blockK h e
  omega
end
theorem box_eq {w : World} {b : Nat} {cs cs' : Array Value} {t : TypeId} (h : w.heap[b]? = some (.cells cs t (0, 0))) (e : cs = cs') : w.heap[b]? = some (.cells cs' t (0, 0)) := e ▸ h
theorem box_drew {w : World} {b : Nat} {o : Obj} (h : w.heap[b]? = some o) : w.drew.heap[b]? = some o := h
set_option maxHeartbeats 8000000 in
set_option maxRecDepth 100000 in
theorem least37_cfg (mn mx sw : Int) (ts : List Tk) (ls : List Ln) (hs : List Th) (A : Option Addr) (ca : Nat) (B : Option Addr) (cb : Nat) (D : Option Addr) (cd : Nat) (n : Int) (w : World)
    (hlt0 : ts.length ≤ 1048576) (hll : ls.length ≤ 1048576) (hlh : hs.length ≤ 1048576)
    (ht : Rd w A (ts.flatMap tkc)) (hl : Rd w B (ls.flatMap lnc)) (hh : Rd w D (hs.flatMap thc)) (hmx : I64 mx) (ht64 : ∀ p ∈ ts.map (·.prio) ++ hs.map (·.prio), I64 p) :
    Calls Try.prog 6 #[cfv mn mx sw A ts.length ca B ls.length cb D hs.length cd, .int .i64 n] w fun e w' => e = .returned (.bool true) ∧ Below w.heap.size w w' := by
  have f0 := Lib.hid (fun w => lives37 w)
  have c1 := Lib.hid (fun w ht hl hh => sdead_any mn mx sw ts ls hs A ca B cb D cd n w hlt0 hll hlh ht hl hh hmx ht64)
  have c2 := Lib.hid (fun w ht hl hh => check_cfg mn mx sw ts ls hs A ca B cb D cd w hlt0 hll hlh ht hl hh hmx ht64)
  have c3 := Lib.hid (fun w ht hl hh => acc_w mn mx sw ts ls hs rfl rfl rfl A ca B cb D cd w hlt0 hll hlh ht hl hh hmx ht64)
  have cp := Lib.hid (fun w ht hl hh => copy26_any mn mx sw ts ls hs A ca B cb D cd w hlt0 hll hlh ht hl hh)
  have d1 := Lib.hid (fun (i : Nat) (hi : i < ts.length) (m : Int) A ca B cb D cd w r1 r2 r3 => acc_w mn mx sw (tkDl ts i m) ls hs (tkDl_len ts i m) rfl rfl A ca B cb D cd w hlt0 hll hlh r1 r2 r3 hmx (by rw [tkDl_prios hi]; exact ht64))
  have HY0 := Lib.hid (costY_zero (c := ⟨mn, mx, sw, ts, ls, hs⟩) (n := n))
  have HY1 := Lib.hid (costY_late (c := ⟨mn, mx, sw, ts, ls, hs⟩) (n := n))
  have HE := Lib.hid (fun i => least_edge (mn := mn) (mx := mx) (sw := sw) (ts := ts) (ls := ls) (hs := hs) (i := i))
  have HOW := Lib.hid (oyY_zero (c := ⟨mn, mx, sw, ts, ls, hs⟩))
  have Ht := Lib.hid ht; have Hl := Lib.hid hl; have Hh := Lib.hid hh
  clear ht hl hh hmx ht64
  unfold RetN cfv at *
  unfold RetCy cfv at cp
  have eA : ∀ i m, accB ⟨mn, mx, sw, tkDl ts i m, ls, hs⟩ = accB ⟨mn, mx, sw, tkDl ts i m, ls, hs⟩ := fun _ _ => rfl
  clear eA
  generalize hV : deadS ⟨mn, mx, sw, ts, ls, hs⟩ n.toNat = V at *
  have HV := Lib.hid hV
  clear hV
  generalize hX : (if costY ⟨mn, mx, sw, ts, ls, hs⟩ n = 0 then V else 0) = X at *
  have HX := Lib.hid hX
  clear hX
  generalize costY ⟨mn, mx, sw, ts, ls, hs⟩ n = y at *
  generalize oyY ⟨mn, mx, sw, ts, ls, hs⟩ = oy at *
  generalize accB ⟨mn, mx, sw, ts, ls, hs⟩ = ac at *
  generalize Cf.why ⟨mn, mx, sw, ts, ls, hs⟩ = y2 at *
  go_enter Try.func6, Try.ntmps6
  go_upto_region 1 with fail
  refine name_world fun W hW => ?_
  have HC : Hid (W.heap[w.heap.size]? = some (.cells #[.int .i64 mn, .int .i64 mx, .int .i64 sw, .slice A ts.length ca, .slice B ls.length cb, .slice D hs.length cd] 29 (0, 0))) := Lib.hid (by rw [hW]; exact heap_alloc_new w _)
  have HB : Hid (Below w.heap.size w W) := Lib.hid (by rw [hW]; exact (Below.refl _ _).alloc (Nat.le_refl _) _)
  have hR := fun w' (h : Hid (Below W.heap.size W w')) => (box_rules (box_keep HC.out h.out)).1
  have m1 := Lib.hid (fun w' (h : Hid (Below W.heap.size W w')) => (Ht.out.below HB.out).below h.out)
  have m2 := Lib.hid (fun w' (h : Hid (Below W.heap.size W w')) => (Hl.out.below HB.out).below h.out)
  have m3 := Lib.hid (fun w' (h : Hid (Below W.heap.size W w')) => (Hh.out.below HB.out).below h.out)
  have hS0 := S_refl' W
  have q0 := hR _ hS0
  have sW : w.heap.size ≤ W.heap.size := HB.out.size
  clear hW Ht Hl Hh
  go_wp2_with fail
  refine (f0.out _).mono ?_
  rintro e w1 ⟨rfl, hb1⟩
  have hS1 := S_call' hS0 hb1
  have q1 := hR _ hS1
  clear hb1 q0
  go_wp2_with fail
  refine (c1.out _ (m1.out _ hS1) (m2.out _ hS1) (m3.out _ hS1)).mono ?_
  rintro e w2 ⟨rfl, hb1⟩
  have hS2 := S_call' hS1 hb1
  have q2 := hR _ hS2
  clear hb1 q1
  clear f0 c1
  by_cases hy : y = 0
  · have h0 := HY0.out hy
    obtain ⟨h1, h2, h3⟩ := h0
    have hw := (HOW.out h1).1
    obtain ⟨i, rfl⟩ := Int.eq_ofNat_of_zero_le h2
    rw [Int.toNat_natCast] at h3 HV
    obtain ⟨⟨g1, g2, g3⟩, g4, g5⟩ := HE.out i h1 h3
    rw [HV.out] at g1 g2 g4 g5
    rw [if_pos hy] at HX
    have hxv := HX.out
    subst hxv
    subst hy
    subst hw
    have D1 := Lib.hid (fun A ca B cb D cd w r1 r2 r3 => (d1.out i h3 V A ca B cb D cd w r1 r2 r3))
    have D2 := Lib.hid (fun A ca B cb D cd w r1 r2 r3 => (d1.out i h3 (V - 1) A ca B cb D cd w r1 r2 r3))
    rw [g4] at D1
    rw [g5] at D2
    clear d1 HY0 HY1 HE HOW HV HX c3 h1 g4 g5
    have hy1 : ((0 : Int) != 0) = false := by decide
    go_wp2_with fail
    refine (c2.out _ (m1.out _ hS2) (m2.out _ hS2) (m3.out _ hS2)).mono ?_
    rintro e w3 ⟨rfl, hb1⟩
    have hS3 := S_call' hS2 hb1
    have q3 := hR _ hS3
    clear hb1 q2 c2
    obtain ⟨a, x, rfl, hx, ⟨-, -, -, -⟩, z4, -⟩ := (m1.out _ hS3).tkAt h3
    rw [hx] at g2 g3
    have i1 : (0 : Int) ≤ (i : Int) := by omega
    have i2 : (i : Int) < (ts.length : Int) := by omega
    clear hx
    go_upto_region 8 with fail
    go_cut [7, 8] (fun d e wx => ∃ (bd be : Nat) (A2 : Option Addr) (c2 : Nat) (B2 : Option Addr) (d2 : Nat) (D2 : Option Addr) (e2 : Nat) (A3 : Option Addr) (c3 : Nat) (B3 : Option Addr) (d3 : Nat) (D3 : Option Addr) (e3 : Nat), d = .pointer (some ⟨bd, 0, none⟩) ∧ e = .pointer (some ⟨be, 0, none⟩) ∧
      LeI mn mx sw ts.length ls.length hs.length bd be W.heap.size A2 c2 B2 d2 D2 e2 A3 c3 B3 d3 D3 e3 w ts ts ls hs wx)
    case first =>
      have tok1 : True := trivial
      have l3 := hS3.out.size
      go_region_held3 (fun w' => Hid (Below W.heap.size W w')) ((first | (with_reducible assumption) | (refine Lib.hid ?_; repeat (first | ((with_reducible refine Hid.out ?_); (with_reducible assumption)) | ((with_reducible refine Below.setCell ?_ ?_ _); rotate_left 1; focus ((try simp); omega)) | ((with_reducible refine Below.alloc ?_ ?_ _); rotate_left 1; focus ((try simp); omega)) | (with_reducible refine bdrew ?_))))) ((first
        | (go_at_call 20; have _t := tok1; refine (cp.out _ (m1.out _ (by assumption)) (m2.out _ (by assumption)) (m3.out _ (by assumption))).mono ?_; rintro e wa ⟨A2, c2, B2, d2, D2, e2, rfl, ho1, ho2, ho3, hba⟩; have hka := S_call' (W := W) (by assumption) hba; have la := hka.out.size; have Hba := Lib.hid hba; clear tok1 _t hba;
            (first | (have hx := Lib.hid (bx2 (undrew Hba.out)); obtain ⟨xx1, xx2⟩ := box_rules hx.out.1; obtain ⟨xx3, xx4⟩ := box_rules hx.out.2; have lx := box_lt hx.out.1; have lx2 := box_lt hx.out.2) | (have hx := Lib.hid (bx1 (undrew Hba.out)); obtain ⟨xx1, xx2⟩ := box_rules hx.out; have lx := box_lt hx.out) | skip))
        | (go_at_call 20; refine (cp.out _ (m1.out _ (by assumption)) (m2.out _ (by assumption)) (m3.out _ (by assumption))).mono ?_; rintro e wb ⟨A3, c3, B3, d3, D3, e3, rfl, hp1, hp2, hp3, hbb⟩; have hkb := S_call' (W := W) (by assumption) hbb; have lb := hkb.out.size; have lab := hbb.size; have Hbb := Lib.hid hbb; clear hbb; (try simp at lab); (first | (have g1 := Lib.hid (own_belowK ho1 Hbb.out); have g2 := Lib.hid (own_belowK ho2 Hbb.out); have g3 := Lib.hid (own_belowK ho3 Hbb.out)) | (have g1 := Lib.hid (own_belowK (own_allocK ho1 _) Hbb.out); have g2 := Lib.hid (own_belowK (own_allocK ho2 _) Hbb.out); have g3 := Lib.hid (own_belowK (own_allocK ho3 _) Hbb.out)) | (have g1 := Lib.hid (own_belowK (own_allocK (own_allocK ho1 _) _) Hbb.out); have g2 := Lib.hid (own_belowK (own_allocK (own_allocK ho2 _) _) Hbb.out); have g3 := Lib.hid (own_belowK (own_allocK (own_allocK ho3 _) _) Hbb.out)));
            (first | (have hy := Lib.hid (bx2 Hbb.out); obtain ⟨yy1, yy2⟩ := box_rules hy.out.1; obtain ⟨yy3, yy4⟩ := box_rules hy.out.2; have ly := box_lt hy.out.1; have ly2 := box_lt hy.out.2) | (have hy := Lib.hid (bx1 Hbb.out); obtain ⟨yy1, yy2⟩ := box_rules hy.out; have ly := box_lt hy.out) | skip);
            (first | (have hz := Lib.hid (bk2 Hbb.out hx.out); clear xx1 xx2 xx3 xx4; obtain ⟨xx1, xx2⟩ := box_rules hz.out.1; obtain ⟨xx3, xx4⟩ := box_rules hz.out.2; have lz := box_lt hz.out.1; have lz2 := box_lt hz.out.2) | (have hz := Lib.hid (bk1 Hbb.out hx.out); clear xx1 xx2; obtain ⟨xx1, xx2⟩ := box_rules hz.out; have lz := box_lt hz.out) | (have hz := Lib.hid (bk3 Hbb.out hx.out); clear xx1 xx2; obtain ⟨xx1, xx2⟩ := box_rules hz.out; have lz := box_lt hz.out) | skip))))
      all_goals
        go_wp2_with fail
        go_meet
        have HL := HB.out.trans (hkb.out.mono sW)
        refine ⟨_, _, A2, c2, B2, d2, D2, e2, A3, c3, B3, d3, D3, e3, rfl, rfl, ?_⟩
        refine ⟨?_, ?_, ?_, ?_, ?_, ?_, ?_, ?_, ?_, ?_, sW⟩
        · repeat (with_reducible first | exact hx.out.1 | exact hx.out.2 | exact hx.out | exact hy.out.1 | exact hy.out.2 | exact hy.out | exact hz.out.1 | exact hz.out.2 | exact hz.out | apply set6_box | (apply set6_far; focus (first | (simp; done) | (simp; omega) | omega)) | exact heap_alloc_new _ _ | (apply heap_new_at; focus (simp; done)) | apply box_alloc | apply box_drew)
        · repeat (with_reducible first | exact hx.out.1 | exact hx.out.2 | exact hx.out | exact hy.out.1 | exact hy.out.2 | exact hy.out | exact hz.out.1 | exact hz.out.2 | exact hz.out | apply set6_box | (apply set6_far; focus (first | (simp; done) | (simp; omega) | omega)) | exact heap_alloc_new _ _ | (apply heap_new_at; focus (simp; done)) | apply box_alloc | apply box_drew)
        · apply own_monoK (base' := W.heap.size)
          repeat (with_reducible first | exact g1 | exact g1.out | apply own_allocK | apply own_drewK | (apply set6_row; focus (apply row_ne ho1; first | (simp; done) | (simp; omega) | omega)))
          focus (first | (simp; done) | (simp; omega) | omega)
        · apply own_monoK (base' := W.heap.size)
          repeat (with_reducible first | exact g2 | exact g2.out | apply own_allocK | apply own_drewK | (apply set6_row; focus (apply row_ne ho2; first | (simp; done) | (simp; omega) | omega)))
          focus (first | (simp; done) | (simp; omega) | omega)
        · apply own_monoK (base' := W.heap.size)
          repeat (with_reducible first | exact g3 | exact g3.out | apply own_allocK | apply own_drewK | (apply set6_row; focus (apply row_ne ho3; first | (simp; done) | (simp; omega) | omega)))
          focus (first | (simp; done) | (simp; omega) | omega)
        · apply own_monoK (base' := W.heap.size)
          repeat (with_reducible first | exact hp1 | exact hp1.out | apply own_allocK | apply own_drewK | (apply set6_row; focus (apply row_ne hp1; first | (simp; done) | (simp; omega) | omega)))
          focus (first | (simp; done) | (simp; omega) | omega)
        · apply own_monoK (base' := W.heap.size)
          repeat (with_reducible first | exact hp2 | exact hp2.out | apply own_allocK | apply own_drewK | (apply set6_row; focus (apply row_ne hp2; first | (simp; done) | (simp; omega) | omega)))
          focus (first | (simp; done) | (simp; omega) | omega)
        · apply own_monoK (base' := W.heap.size)
          repeat (with_reducible first | exact hp3 | exact hp3.out | apply own_allocK | apply own_drewK | (apply set6_row; focus (apply row_ne hp3; first | (simp; done) | (simp; omega) | omega)))
          focus (first | (simp; done) | (simp; omega) | omega)
        · intro g e1 e2
          obtain ⟨h8, h9, _⟩ := own_blockK ho1 e1
          obtain ⟨h6, h7, _⟩ := own_blockK hp1 e2
          (try simp at h6 h9) <;> omega
        · repeat (with_reducible first | exact HL | (apply set6_low; focus (first | (simp; done) | (simp; omega) | omega)) | (apply low_alloc; focus (first | (simp; done) | (simp; omega) | omega)) | apply bdrew)
    case rest =>
    obtain ⟨bd, be, A2, c2, B2, d2, D2', e2, A3, c3, B3, d3, D3, e3, rfl, rfl, hI⟩ := hcut
    have HI := Lib.hid hI
    clear hI hS0 hS1 hS2 hS3 q3 z4 m1 m2 m3 hR HC cp
    obtain ⟨a2, y, rfl, hy, ⟨-, -, -, -⟩, q4, -⟩ := (own_rdK HI.out.o1).tkAt h3
    have fz := own_froz HI.out.o1 (i * 10) 4
    obtain ⟨dx, dy⟩ := box_rules HI.out.boxd
    have e1 : IntKind.i64.wrap (V - 1) = V - 1 := IntWalk.i64_in _ (by omega)
    clear hy
    go_upto_region 10 with fail
    refine name_world fun U hU => ?_
    have HI2 := Lib.hid (show LeI mn mx sw ts.length ls.length hs.length bd be W.heap.size (some a2) c2 B2 d2 D2' e2 A3 c3 B3 d3 D3 e3 w (tkDl ts i V) ts ls hs U by rw [hU]; exact HI.out.putD h3 V)
    clear hU dx dy fz q4 HI
    obtain ⟨a3, y, rfl, hy, ⟨-, -, -, -⟩, q4, -⟩ := (own_rdK HI2.out.p1).tkAt h3
    have fz := own_froz HI2.out.p1 (i * 10) 4
    obtain ⟨dx, dy⟩ := box_rules HI2.out.boxe
    clear hy
    go_upto_region 11 with fail
    refine name_world fun U2 hU => ?_
    have HI3 := Lib.hid (show LeI mn mx sw ts.length ls.length hs.length bd be W.heap.size (some a2) c2 B2 d2 D2' e2 (some a3) c3 B3 d3 D3 e3 w (tkDl ts i V) (tkDl ts i (V - 1)) ls hs U2 by rw [hU]; exact HI2.out.putE h3 (V - 1))
    clear hU dx dy fz q4 HI2
    obtain ⟨dx, dy⟩ := box_rules HI3.out.boxd
    go_wp2_with fail
    refine (D1.out _ _ _ _ _ _ _ (own_rdK HI3.out.o1) (own_rdK HI3.out.o2) (own_rdK HI3.out.o3)).mono ?_
    rintro e w5 ⟨rfl, hb⟩
    have HE := Lib.hid (box_keep HI3.out.boxe hb)
    have r1 := Lib.hid ((own_rdK HI3.out.p1).below hb); have r2 := Lib.hid ((own_rdK HI3.out.p2).below hb); have r3 := Lib.hid ((own_rdK HI3.out.p3).below hb)
    have HB5 := Lib.hid (HI3.out.low.trans (hb.mono HI3.out.low.size))
    clear hb dx dy HI3
    obtain ⟨dx, dy⟩ := box_rules HE.out
    go_wp2_with fail
    refine (D2.out _ _ _ _ _ _ _ r1.out r2.out r3.out).mono ?_
    rintro e w6 ⟨rfl, hb⟩
    have HB6 := Lib.hid (HB5.out.trans (hb.mono HB5.out.size))
    clear hb dx dy HE r1 r2 r3
    go_wp2
    go_ret
    exact ⟨rfl, HB6.out⟩
  · rw [if_neg hy] at HX
    have hxv := HX.out
    subst hxv
    have hy1 : (y != 0) = true := by simpa using hy
    clear HX HV HE HOW d1 cp c2
    by_cases h11 : y = 11
    · have hac := HY1.out h11
      subst hac
      subst h11
      have hy2 : ((11 : Int) != 11) = false := by decide
      clear HY0 HY1
      go_wp2_with fail
      refine (c3.out _ (m1.out _ hS2) (m2.out _ hS2) (m3.out _ hS2)).mono ?_
      rintro e w3 ⟨rfl, hb1⟩
      have hS3 := S_call' hS2 hb1
      clear hb1 q2 c3
      go_wp2
      go_ret
      exact ⟨rfl, HB.out.trans (hS3.out.mono HB.out.size)⟩
    · have hy2 : (y != 11) = true := by simpa using h11
      clear HY0 HY1 c3
      go_wp2
      go_ret
      exact ⟨rfl, HB.out.trans (hS2.out.mono HB.out.size)⟩
end Go.Proofs.Ytlnjeelbfokdpaa

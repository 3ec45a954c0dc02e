/- Package assign: where some dealing out is accepted, there is an assignment: plain laws, no program in sight. -/
import Derived.Test.YtgampofpabllbaaGreatAsX2E
namespace Go.Proofs.YtgampofpabllbaaGreat
open Go.RowKit

theorem urgL_all {mn sw : Int} {ts : List Tk} {p : Int} {Q : Ld → Prop} (h : ∀ k, k < ts.length → Q (urgT mn sw (ts.getD k tk0))) : ∀ k, k ≤ ts.length → ∀ x ∈ urgL mn sw ts p k, Q x
  | 0, _, x, hx => by cases hx
  | k + 1, hk, x, hx => by
    rcases List.mem_append.1 (show x ∈ urgL mn sw ts p k ++ _ from hx) with hx | hx
    · exact urgL_all h k (by omega) x hx
    · split at hx
      · rw [List.mem_singleton.1 hx]; exact h k (by omega)
      · cases hx
theorem supT_all {hs : List Th} {p : Int} {Q : Ld → Prop} (h : ∀ k, k < hs.length → Q (thL (hs.getD k ⟨0, 0, 0, 0⟩))) : ∀ k, k ≤ hs.length → ∀ x ∈ supT hs p k, Q x
  | 0, _, x, hx => by cases hx
  | k + 1, hk, x, hx => by
    rcases List.mem_append.1 (show x ∈ supT hs p k ++ _ from hx) with hx | hx
    · exact supT_all h k (by omega) x hx
    · split at hx
      · rw [List.mem_singleton.1 hx]; exact h k (by omega)
      · cases hx
theorem supLn_all {ls : List Ln} {Q : Ld → Prop} (h : ∀ k, k < ls.length → Q (lnL (ls.getD k ⟨0, 0, 0, 0⟩))) : ∀ k, k ≤ ls.length → ∀ x ∈ supLn ls k, Q x
  | 0, _, x, hx => by cases hx
  | k + 1, hk, x, hx => by
    rcases List.mem_append.1 (show x ∈ supLn ls k ++ _ from hx) with hx | hx
    · exact supLn_all h k (by omega) x hx
    · rw [List.mem_singleton.1 hx]; exact h k (by omega)
theorem thL_ok {x : Th} (h : ThIn x) : ldOk (thL x) = true := by
  have h1 := h.budget; have h2 := h.period
  unfold ldOk cvOk thL
  dsimp only
  rw [decide_eq_true (by omega), decide_eq_true (by omega), decide_eq_true (by omega), decide_eq_true (by omega)]
  rfl
theorem lnL_ok {x : Ln} (h : LnIn x) : ldOk (lnL x) = true := by
  have h1 := h.window; have h2 := h.all; have h3 := h.many; have h4 := h.top
  have h5 := Int.mul_nonneg (show 0 ≤ x.many by omega) (show 0 ≤ x.top by omega)
  unfold ldOk cvOk lnL
  dsimp only
  rw [decide_eq_true (by omega), decide_eq_true (by omega), decide_eq_true (by omega), decide_eq_true (by omega)]
  rfl
theorem loads_right {mn mx sw : Int} {ts : List Tk} {ls : List Ln} {hs : List Th} (h : Cf.why ⟨mn, mx, sw, ts, ls, hs⟩ = 0) (p : Int) : ldsWhy (loadsL mn sw ts ls hs p) = 0 := by
  have hc := cfIn_of h
  have h1 := hc.nt; have h2 := hc.nl; have h3 := hc.nh; have h4 := hc.mn; have h5 := hc.mx; have h6 := hc.mm; have h7 := hc.sw
  dsimp only at h1 h2 h3 h4 h5 h6 h7
  have a1 := urgL_len mn sw ts p ts.length
  have a2 := supT_len hs p hs.length
  have a3 := supLn_len ls ls.length
  have hall : ∀ x ∈ loadsL mn sw ts ls hs p, ldOk x = true := fun x hx => by
    unfold loadsL supL at hx
    rcases List.mem_append.1 hx with hx | hx
    · exact urgL_all (Q := fun x => ldOk x = true) (fun k hk => urgT_ok (hc.ts _ (getD_mem hk)) (by omega) h7.1) _ (Nat.le_refl _) x hx
    rcases List.mem_append.1 hx with hx | hx
    · exact supT_all (Q := fun x => ldOk x = true) (fun k hk => thL_ok (hc.hs _ (getD_mem (d := ⟨0, 0, 0, 0⟩) hk))) _ (Nat.le_refl _) x hx
    · exact supLn_all (Q := fun x => ldOk x = true) (fun k hk => lnL_ok (hc.ls _ (getD_mem (d := ⟨0, 0, 0, 0⟩) hk))) _ (Nat.le_refl _) x hx
  refine lds_ok ?_ fun j hj => hall _ (ld_mem hj)
  unfold loadsL supL
  rw [List.length_append, List.length_append]
  omega
theorem firstFit_some {f : Nat → Bool} : ∀ {g : List Int} {i x : Nat}, x < g.length → g.getD x 0 = -1 → f (i + x) = true → ∃ k, firstFit f i g = some k
  | p :: g, i, x, hx, h1, h2 => by
    unfold firstFit
    by_cases h : p = -1 ∧ f i = true
    · exact ⟨i, by rw [if_pos h]⟩
    · rw [if_neg h]
      cases x with
      | zero => exact absurd ⟨h1, h2⟩ h
      | succ x => exact firstFit_some (g := g) (i := i + 1) (x := x) (by simpa using hx) h1 (by rw [show i + 1 + x = i + (x + 1) by omega]; exact h2)
theorem Gd.give {pl : List Int} {n m i : Nat} {g : List Int} (hup : ∀ r s, r < s → s < n → pl.getD r 0 < pl.getD s 0) (hm : m < n) (h : Gd pl m g) (hi : i < g.length) : Gd pl (m + 1) (g.set i (pl.getD m 0)) := by
  have hv : ∀ l, l < g.length → (g.set i (pl.getD m 0)).getD l 0 ≠ -1 → (l = i ∧ (g.set i (pl.getD m 0)).getD l 0 = pl.getD m 0) ∨ (l ≠ i ∧ (g.set i (pl.getD m 0)).getD l 0 = g.getD l 0 ∧ g.getD l 0 ≠ -1) := fun l hl hn => by
    by_cases e : i = l
    · subst e; exact .inl ⟨rfl, getD_set_eq hi⟩
    · rw [getD_set_ne e] at hn ⊢
      exact .inr ⟨fun e2 => e e2.symm, rfl, hn⟩
  refine ⟨fun l hl hn => ?_, fun l k hlk hk hn => ?_⟩
  · rw [List.length_set] at hl
    rcases hv l hl hn with ⟨_, h1⟩ | ⟨_, h1, h2⟩
    · exact ⟨m, by omega, h1⟩
    · obtain ⟨r, r1, r2⟩ := h.val l hl h2
      exact ⟨r, by omega, by rw [h1, r2]⟩
  · rw [List.length_set] at hk
    intro e
    have hnk : (g.set i (pl.getD m 0)).getD k 0 ≠ -1 := by rw [← e]; exact hn
    rcases hv l (by omega) hn with ⟨e1, h1⟩ | ⟨e1, h1, h2⟩
    · rcases hv k hk hnk with ⟨e2, g1⟩ | ⟨e2, g1, g2⟩
      · omega
      · obtain ⟨r, r1, r2⟩ := h.val k hk g2
        have := hup r m r1 hm
        omega
    · rcases hv k hk hnk with ⟨e2, g1⟩ | ⟨e2, g1, g2⟩
      · obtain ⟨r, r1, r2⟩ := h.val l (by omega) h2
        have := hup r m r1 hm
        omega
      · exact h.inj l k hlk hk h2 (by rw [← h1, ← g1]; exact e)
theorem Gd.start (pl : List Int) (n : Nat) : Gd pl 0 (List.replicate n (-1)) := by
  have h0 : ∀ j, j < n → (List.replicate n (-1 : Int)).getD j 0 = -1 := fun j hj => by simp [List.getD, hj]
  exact ⟨fun l hl hn => absurd (h0 l (by simpa using hl)) hn, fun l k hlk hk hn => absurd (h0 l (by rw [List.length_replicate] at hk; omega)) hn⟩
theorem fit_next {mn mx sw : Int} {ts : List Tk} {ls : List Ln} {hs : List Th} {q g : List Int} {m : Nat} (hw : Cf.why ⟨mn, mx, sw, ts, ls, hs⟩ = 0) (hq : q.Perm (ts.map (·.prio))) (hdl : ∀ t ∈ ts, t.deadline ≤ 4000)
    (hD : ∀ k, k < ts.length → (boundR mn sw (putP ts q) ls hs ((putP ts q).getD k tk0)).2 = 0) (hg : Gv (placesL ts) ts.length m g) (hd : Gd (placesL ts) m g) (hm : m < ts.length) :
    ∃ x, x < ts.length ∧ g.getD x 0 = -1 ∧ fitB mn mx sw ts ls hs (placesL ts) m g x = true := by
  have hc := cfIn_of hw
  have hts := hc.ts
  have hnd := hc.nodup
  unfold Cf.prios at hnd
  dsimp only at hts hnd
  have hn := (List.nodup_append.1 hnd).1
  have hup : ∀ r s, r < s → s < ts.length → (placesL ts).getD r 0 < (placesL ts).getD s 0 := fun r s h1 h2 => places_up hn h1 h2
  have hpl := places_len ts
  have hql : q.length = ts.length := by have := hq.length_eq; simpa using this
  have hqn : q.Nodup := hq.nodup_iff.2 hn
  have hqne : ∀ k l, k < ts.length → l < ts.length → q.getD k 0 = q.getD l 0 → k = l := fun k l hk hl e => by
    rw [getD_of (by omega), getD_of (by omega)] at e
    rcases Nat.lt_trichotomy k l with h | h | h
    · exact absurd e (List.pairwise_iff_getElem.1 hqn k l (by omega) (by omega) h)
    · exact h
    · exact absurd e.symm (List.pairwise_iff_getElem.1 hqn l k (by omega) (by omega) h)
  have hqpl : ∀ k, k < ts.length → ∃ s, s < ts.length ∧ q.getD k 0 = (placesL ts).getD s 0 := fun k hk => by
    have h1 : q.getD k 0 ∈ placesL ts := by
      rw [getD_of (by omega)]
      exact (places_perm ts).mem_iff.2 (hq.mem_iff.1 (List.getElem_mem _))
    obtain ⟨s, hs, e⟩ := List.getElem_of_mem h1
    exact ⟨s, by omega, by rw [← e, getD_of hs]⟩
  have hop := hg.op
  have hne : opIx 0 g ≠ [] := fun e => by
    have := opIx_len 0 g
    rw [e] at this
    simp at this
    omega
  obtain ⟨x, hx, hmin⟩ := least_of (fun k => q.getD k 0) hne
  obtain ⟨-, x1, x2⟩ := opIx_mem hx
  rw [Nat.zero_add, hg.len] at x1
  rw [Nat.sub_zero] at x2
  have hopen : ∀ k, k < ts.length → g.getD k 0 = -1 → q.getD x 0 ≤ q.getD k 0 := fun k hk h1 => by
    refine hmin k ?_
    have : ∀ {g : List Int} {i k : Nat}, k < g.length → g.getD k 0 = -1 → i + k ∈ opIx i g := fun {g} => by
      induction g with
      | nil => intro i k hk; exact absurd hk (Nat.not_lt_zero _)
      | cons p g ih =>
        intro i k hk h1
        cases k with
        | zero =>
          have e : p = -1 := h1
          unfold opIx
          rw [if_pos e]
          simp
        | succ k =>
          have h2 := ih (i := i + 1) (k := k) (by simpa using hk) h1
          rw [show i + (k + 1) = i + 1 + k by omega]
          unfold opIx
          split
          · exact List.mem_cons_of_mem _ h2
          · exact h2
    have h2 := this (g := g) (i := 0) (k := k) (by rw [hg.len]; exact hk) h1
    rw [Nat.zero_add] at h2
    exact h2
  refine ⟨x, x1, x2, ?_⟩
  -- the place is no less
  have hle : q.getD x 0 ≤ (placesL ts).getD m 0 := by
    apply Classical.byContradiction
    intro hlt
    have hlen : ((opIx 0 g).map fun k => q.getD k 0).length ≤ ((placesL ts).drop (m + 1)).length := by
      refine nodup_len ?_ ?_
      · refine List.pairwise_map.2 ((opIx_nodup 0 g).imp_of_mem fun {a b} ha hb hab e => ?_)
        obtain ⟨-, a1, -⟩ := opIx_mem ha
        obtain ⟨-, b1, -⟩ := opIx_mem hb
        rw [Nat.zero_add, hg.len] at a1 b1
        exact hab (hqne a b a1 b1 e)
      · intro v hv
        obtain ⟨k, hk, e⟩ := List.mem_map.1 hv
        have hk2 := hmin k hk
        obtain ⟨-, k1, -⟩ := opIx_mem hk
        rw [Nat.zero_add, hg.len] at k1
        obtain ⟨s, s1, s2⟩ := hqpl k k1
        have hms : m < s := by
          rcases Nat.lt_trichotomy m s with h | h | h
          · exact h
          · subst h; omega
          · have := hup s m h hm; omega
        rw [← e, s2, getD_of (by omega)]
        have e3 : (placesL ts)[s]'(by omega) = ((placesL ts).drop (m + 1))[s - (m + 1)]'(by rw [List.length_drop]; omega) := by
          rw [List.getElem_drop]
          congr 1
          omega
        rw [e3]
        exact List.getElem_mem _
    rw [List.length_map, opIx_len, List.length_drop] at hlen
    omega
  have hfits : Fits ts.length x 0 (m + 1) g := .inl ⟨Nat.zero_le _, by rw [Nat.zero_add, hg.len]; exact x1, by rw [Nat.sub_zero]; exact x2, by omega⟩
  obtain ⟨n1, n2⟩ := trG_nodup hup hm g 0 (m + 1) (Nat.lt_succ_self m) hd hfits
  have hperm : (tryP (placesL ts) m x g).Perm (ts.map (·.prio)) := perm_sub n1 (fun v hv => by
    obtain ⟨s, s1, s2⟩ := n2 v hv
    rw [s2]
    exact places_mem s1) (by rw [tryP_len, hg.len, List.length_map]; exact Nat.le_refl _)
  have hwT := why_deal hw hperm
  have hwD := why_deal hw hq
  have hcD := cfIn_of hwD
  have tx : (tryP (placesL ts) m x g).getD x 0 = (placesL ts).getD m 0 := (trG_get _ _ _ g 0 _ x (by rw [hg.len]; exact x1)).1 (by omega)
  have hval : ∀ k, k < ts.length → k ≠ x → (g.getD k 0 = -1 ∧ (placesL ts).getD m 0 < (tryP (placesL ts) m x g).getD k 0) ∨ (g.getD k 0 ≠ -1 ∧ (tryP (placesL ts) m x g).getD k 0 < (placesL ts).getD m 0) := fun k hk hkx => by
    obtain ⟨-, t1, t2⟩ := trG_get (placesL ts) m x g 0 (m + 1) k (by rw [hg.len]; exact hk)
    by_cases h1 : g.getD k 0 = -1
    · obtain ⟨s, s1, s2, s3, s4⟩ := t2 (by rw [Nat.zero_add]; exact hkx) h1
      have hs3 := s3 (Nat.zero_le _) (by rw [Nat.zero_add, hg.len]; exact x1) (by rw [Nat.sub_zero]; exact x2)
      have h2 := hup m s (Nat.lt_of_succ_le s1) (place_lt hs3 hop)
      have e4 : (tryP (placesL ts) m x g).getD k 0 = (placesL ts).getD s 0 := s4
      exact .inl ⟨h1, by rw [e4]; exact h2⟩
    · obtain ⟨r, r1, r2⟩ := hd.val k (by rw [hg.len]; exact hk) h1
      have h2 := hup r m r1 hm
      have e4 : (tryP (placesL ts) m x g).getD k 0 = g.getD k 0 := t1 (by rw [Nat.zero_add]; exact hkx) h1
      exact .inr ⟨h1, by rw [e4, r2]; exact h2⟩
  have hB : Better sw ((placesL ts).getD m 0) (q.getD x 0) (putP ts q) (putP ts (tryP (placesL ts) m x g)) := by
    refine ⟨by rw [putP_len, putP_len], fun k hk => ?_, fun k hk h1 => ?_, fun k hk h1 => ?_, fun k hk h1 => ?_, fun k hk => hcD.ts _ (getD_mem hk)⟩
    · rw [putP_len] at hk
      exact ⟨(tryP (placesL ts) m x g).getD k 0, by rw [putP_get _ _ hk, putP_get _ _ hk]⟩
    · rw [putP_len] at hk
      rw [putP_get _ _ hk] at h1 ⊢
      dsimp only at h1 ⊢
      by_cases e : k = x
      · subst e; omega
      · rcases hval k hk e with ⟨v1, v2⟩ | ⟨v1, v2⟩
        · have h2 := hopen k hk v1
          have h3 : q.getD k 0 ≠ q.getD x 0 := fun h => e (hqne k x hk x1 h)
          omega
        · omega
    · rw [putP_len] at hk
      rw [putP_get _ _ hk] at h1 ⊢
      dsimp only at h1 ⊢
      by_cases e : k = x
      · subst e; exact Int.le_refl _
      · rcases hval k hk e with ⟨v1, v2⟩ | ⟨v1, v2⟩
        · exact hopen k hk v1
        · omega
    · rw [putP_len] at hk
      rw [putP_get _ _ hk] at h1 ⊢
      dsimp only at h1 ⊢
      intro h
      have e := hqne k x hk x1 h
      subst e
      omega
  have hxd := hcD.ts _ (getD_mem (d := tk0) (show x < (putP ts q).length by rw [putP_len]; exact x1))
  have hDx := hD x x1
  have ex : (putP ts q).getD x tk0 = { ts.getD x tk0 with prio := q.getD x 0 } := putP_get _ _ x1
  have eT : (putP ts (tryP (placesL ts) m x g)).getD x tk0 = { ts.getD x tk0 with prio := (placesL ts).getD m 0 } := by rw [putP_get _ _ x1, tx]
  rw [ex] at hxd hDx
  dsimp only at hxd
  have h4 := hc.mn; have h5 := hc.mx; have h6 := hc.mm; have h7 := hc.sw
  dsimp only at h4 h5 h6 h7
  have hb := better_bound (ls := ls) (hs := hs) hB (by omega) h7 hc.hs hxd.prio.1 hle hxd rfl (show (ts.getD x tk0).deadline ≤ 4000 from hdl _ (getD_mem x1)) (loads_right hwT _) hDx
  unfold fitB
  have hy : fitY mn mx sw (putP ts (tryP (placesL ts) m x g)) ls hs x = 0 := by
    unfold fitY
    have ha : askY (Cf.why ⟨mn, mx, sw, putP ts (tryP (placesL ts) m x g), ls, hs⟩) (putP ts (tryP (placesL ts) m x g)) (x : Int) = 0 := by
      unfold askY
      rw [if_neg (by simp [hwT]), if_neg (by rw [putP_len]; omega)]
    rw [if_pos ha, eT]
    exact hb
  rw [hy]
  rfl
theorem asg_some {mn mx sw : Int} {ts : List Tk} {ls : List Ln} {hs : List Th} {q : List Int} (hw : Cf.why ⟨mn, mx, sw, ts, ls, hs⟩ = 0) (hq : q.Perm (ts.map (·.prio))) (hdl : ∀ t ∈ ts, t.deadline ≤ 4000)
    (hD : ∀ k, k < ts.length → (boundR mn sw (putP ts q) ls hs ((putP ts q).getD k tk0)).2 = 0) : ∃ gf, asgP mn mx sw ts ls hs = some gf := by
  have hc := cfIn_of hw
  have hts := hc.ts
  have hnd := hc.nodup
  unfold Cf.prios at hnd
  dsimp only at hts hnd
  have hn := (List.nodup_append.1 hnd).1
  have hup : ∀ r s, r < s → s < ts.length → (placesL ts).getD r 0 < (placesL ts).getD s 0 := fun r s h1 h2 => places_up hn h1 h2
  have key : ∀ (k m : Nat) (g : List Int), k + m = ts.length → Gv (placesL ts) ts.length m g → Gd (placesL ts) m g → ∃ gf, asgGo (fitB mn mx sw ts ls hs (placesL ts)) (placesL ts) k m g = some gf := fun k => by
    induction k with
    | zero => intro m g _ _ _; exact ⟨g, rfl⟩
    | succ k ih =>
      intro m g hk hg hd
      have hm : m < ts.length := by omega
      obtain ⟨x, x1, x2, x3⟩ := fit_next hw hq hdl hD hg hd hm
      obtain ⟨i, hi⟩ := firstFit_some (f := fitB mn mx sw ts ls hs (placesL ts) m g) (g := g) (i := 0) (x := x) (by rw [hg.len]; exact x1) x2 (by rw [Nat.zero_add]; exact x3)
      obtain ⟨-, f2, f3, -⟩ := firstFit_at hi
      rw [Nat.sub_zero] at f3
      rw [Nat.zero_add] at f2
      unfold asgGo
      rw [hi]
      have hp : (placesL ts).getD m 0 ≠ -1 := by have := places_in hts hm; omega
      exact ih (m + 1) _ (by omega) (hg.give (by rw [← hg.len]; exact f2) f3 hp) (hd.give hup hm f2)
  exact key ts.length 0 _ rfl (Gv.start _ _) (Gd.start _ _)
end Go.Proofs.YtgampofpabllbaaGreat
/- Package assign: an assignment does not hang on who has which place at the start: plain laws, no program in sight. -/
namespace Go.Proofs.YtgampofpabllbaaGreat
open Go.RowKit

theorem sorted_eq : ∀ {l m : List Int}, l.Perm m → List.Pairwise (fun x y : Int => x ≤ y) l → List.Pairwise (fun x y : Int => x ≤ y) m → l = m
  | [], m, h, _, _ => by rw [List.nil_perm.1 h]
  | x :: l, [], h, _, _ => by have := h.length_eq; simp at this
  | x :: l, y :: m, h, h1, h2 => by
    obtain ⟨a1, a2⟩ := List.pairwise_cons.1 h1
    obtain ⟨b1, b2⟩ := List.pairwise_cons.1 h2
    have hx : x ∈ y :: m := h.mem_iff.1 (by simp)
    have hy : y ∈ x :: l := h.mem_iff.2 (by simp)
    have e : x = y := by
      rcases List.mem_cons.1 hx with h3 | h3
      · exact h3
      · rcases List.mem_cons.1 hy with h4 | h4
        · exact h4.symm
        · have := b1 x h3
          have := a1 y h4
          omega
    subst e
    rw [sorted_eq ((List.perm_cons x).1 h) a2 b2]
theorem places_deal {ts : List Tk} {q : List Int} (hq : q.Perm (ts.map (·.prio))) : placesL (putP ts q) = placesL ts := by
  have hql : q.length = ts.length := by have := hq.length_eq; simpa using this
  refine sorted_eq ?_ (places_sorted _) (places_sorted _)
  refine (places_perm _).trans ?_
  rw [putP_prios _ _ hql]
  exact hq.trans (places_perm ts).symm
theorem asg_deal {mn mx sw : Int} {ts : List Tk} {ls : List Ln} {hs : List Th} {q : List Int} (hq : q.Perm (ts.map (·.prio))) : asgP mn mx sw (putP ts q) ls hs = asgP mn mx sw ts ls hs := by
  unfold asgP
  rw [places_deal hq, putP_len]
  have e : fitB mn mx sw (putP ts q) ls hs (placesL ts) = fitB mn mx sw ts ls hs (placesL ts) := by
    funext m g i
    unfold fitB
    rw [putP_put]
  rw [e]
end Go.Proofs.YtgampofpabllbaaGreat
/- vergelaw36: the small configuration, and what the package answers at it. No premise of its own. -/
namespace Go.Proofs.YtgampofpabllbaaGreat
open Go.RowKit Go.Shelf

def sm1 : Tk := ⟨2, 5, 100, 0, 100, 40, 1, -1, 0, 0⟩
def sm2 : Tk := ⟨2, 3, 60, 0, 30, 10, 1, -1, 0, 0⟩
def smT : List Tk := [sm1, sm2]
theorem small36 (w : World) : Calls Tryz.prog 19 #[] w fun e w' => e = .returned (cfv 1 100 0 (some ⟨w.heap.size + 1, 0, none⟩) 2 2 none 0 0 none 0 0) ∧ w'.heap[w.heap.size + 1]? = some (.cells (tkc sm1 ++ tkc sm2).toArray 43 (0, 0)) ∧ Below w.heap.size w w' := by
  go_enter Tryz.func19, Tryz.ntmps19
  go_wp2
  refine bodyPost_ret (v := cfv 1 100 0 (some ⟨w.heap.size + 1, 0, none⟩) 2 2 none 0 0 none 0 0) (by simp [results, cfv, Tryz.f19, go_sem]) rfl ⟨rfl, ?_, ?_⟩
  · show _ = some (Obj.cells #[.int .u8 2, .int .i64 5, .int .i64 100, .int .i64 0, .int .i64 100, .int .i64 40, .int .i64 1, .int .i64 (-1), .int .i64 0, .int .i64 0, .int .u8 2, .int .i64 3, .int .i64 60, .int .i64 0, .int .i64 30, .int .i64 10, .int .i64 1, .int .i64 (-1), .int .i64 0, .int .i64 0] 43 (0, 0))
    repeat (first | ((with_reducible refine heap_new_at _ ?_); focus (first | (with_reducible rfl) | (simp; done))) | (with_reducible refine box_alloc ?_ _) | ((with_reducible refine box_far ?_ ?_ _); rotate_left 1; focus (first | (simp; done) | (simp; omega) | omega)))
  · repeat (first | (with_reducible exact Below.refl _ _) | ((with_reducible refine Below.setCell ?_ ?_ _); rotate_left 1; focus (first | (with_reducible exact Nat.le_refl _) | (simp; done))) | ((with_reducible refine Below.alloc ?_ ?_ _); rotate_left 1; focus (first | (simp; done) | (simp; omega) | omega)))
theorem sm_why : Cf.why ⟨1, 100, 0, smT, [], []⟩ = 0 := by kernel_rfl
theorem sm_places : placesL smT = [3, 5] := sorted_eq ((places_perm smT).trans (List.Perm.swap 3 5 [])) (places_sorted smT) (by simp)
theorem sm_asg : asgP 1 100 0 smT [] [] = some [3, 5] := by
  unfold asgP
  rw [sm_places]
  kernel_rfl
theorem sm_ord : ordL smT = [0, 1] := by
  unfold ordL
  exact List.mergeSort_of_pairwise (l := [0, 1]) (List.Pairwise.cons (fun a ha => by rw [List.mem_singleton.1 ha]; kernel_rfl) (List.pairwise_singleton _ _))
def sm1' : Tk := { sm1 with cost := 90 }
theorem sm_why' : Cf.why ⟨1, 100, 0, [sm1', sm2], [], []⟩ = 0 := by kernel_rfl
theorem sm_places' : placesL [sm1', sm2] = [3, 5] := sorted_eq ((places_perm [sm1', sm2]).trans (List.Perm.swap 3 5 [])) (places_sorted [sm1', sm2]) (by simp)
theorem sm_asg' : asgP 1 100 0 [sm1', sm2] [] [] = none := by
  unfold asgP
  rw [sm_places']
  kernel_rfl
theorem sm_64 : ∀ p ∈ smT.map (·.prio) ++ ([] : List Th).map (·.prio), I64 p := by
  intro p hp
  simp [smT, sm1, sm2] at hp
  unfold I64
  omega
theorem sm_64' : ∀ p ∈ [sm1', sm2].map (·.prio) ++ ([] : List Th).map (·.prio), I64 p := by
  intro p hp
  simp [sm1', sm1, sm2] at hp
  unfold I64
  omega
theorem i64_100 : I64 100 := ⟨by decide, by decide⟩
theorem zero_why : Cf.why ⟨0, 0, 0, [], [], []⟩ = 2 := by kernel_rfl
end Go.Proofs.YtgampofpabllbaaGreat
/- vergeref05.Same of two that are one; vergelaw36: the walk of lives. Conditions: lists that read. -/
namespace Go.Proofs.YtgampofpabllbaaGreat
open Go.RowKit Go.Shelf

set_option maxHeartbeats 2000000 in
theorem same_eq (A : Option Addr) (c : Nat) (B : Option Addr) (c' : Nat) (xs : List Int) (w : World) (hl : xs.length ≤ 549755813888) (h1 : Rd w A (xs.map (.int .i64))) (h2 : Rd w B (xs.map (.int .i64))) :
    Calls Tryz.prog 15 #[.slice A xs.length c, .slice B xs.length c'] w fun e w' => e = .returned (.bool true) ∧ ∃ k, w.drewN k = w' := by
  have H1 := Lib.hid h1; clear h1
  have H2 := Lib.hid h2; clear h2
  go_enter Tryz.func15, Tryz.ntmps15
  go_wp2
  go_loopw [5, 13] (fun _ i wr => ∃ k n : Nat, k ≤ xs.length ∧ i = .int .i64 k ∧ wr = w.drewN n) (fun _ i _ => xs.length - (intOf i).toNat)
  case atStart => exact ⟨0, 0, by omega, rfl, rfl⟩
  case round =>
    obtain ⟨k, n, hk, rfl, rfl⟩ := hrel
    by_cases hlt : k < xs.length
    · obtain ⟨a, ha, g1⟩ := H1.out.int hlt
      obtain ⟨b, hb, g2⟩ := H2.out.int hlt
      subst ha hb
      generalize xs.getD k 0 = x at *
      go_wp2
      go_big_quiet (fail)
      go_wp2
      go_roundw
      case rel => exact ⟨k + 1, _, by omega, by go_num, rfl⟩
      case measure => simp [intOf]; omega
    · obtain rfl : k = xs.length := by omega
      go_wp2
      go_ret
      exact ⟨rfl, n, rfl⟩

theorem own_lit {w : World} {base : Nat} {e : TypeId} {k n c : Nat} {A : Option Addr} {vs : List Value} (hn : n ≠ 0) (h : w.ownsRow base e k (.slice A n c) n vs) : ∃ g, A = some ⟨g, 0, none⟩ ∧ base ≤ g ∧ g < w.heap.size ∧ ∀ i u, vs[i]? = some u → w.cell? ⟨g, i, none⟩ = some u := by
  have hr := own_rdK h
  rcases h.2 with ⟨_, h1⟩ | ⟨g, cap, cur, h1, h2, h3, _⟩
  · exact absurd h1 hn
  · injection h1 with h1
    subst h1
    refine ⟨g, rfl, h2, box_lt h3, fun i u hu => ?_⟩
    obtain ⟨a, ha, hc⟩ := hr i u hu
    cases ha
    rw [add_zero_lit, Nat.zero_add] at hc
    exact hc
theorem sm_rd {w : World} {b : Nat} (h : w.heap[b]? = some (.cells (tkc sm1 ++ tkc sm2).toArray 43 (0, 0))) : Rd w (some ⟨b, 0, none⟩) (smT.flatMap tkc) := rd_box h
theorem sm_rd' {w : World} {b : Nat} (h : w.heap[b]? = some (.cells (tkc sm1' ++ tkc sm2).toArray 43 (0, 0))) : Rd w (some ⟨b, 0, none⟩) ([sm1', sm2].flatMap tkc) := rd_box h
theorem asg_sm {w : World} {b : Nat} (h : w.heap[b]? = some (.cells (tkc sm1 ++ tkc sm2).toArray 43 (0, 0))) : Calls Tryz.prog 8 #[cfv 1 100 0 (some ⟨b, 0, none⟩) 2 2 none 0 0 none 0 0] w fun e w' =>
    ∃ (A : Option Addr) (ca : Nat) (B : Option Addr) (cb : Nat) (D : Option Addr) (cd : Nat), e = .returned (.tuple #[cfv 1 100 0 A 2 ca B 0 cb D 0 cd, .int .i64 0]) ∧ w'.ownsRow w.heap.size 43 10 (.slice A 2 ca) 2 ([{ sm1 with prio := 3 }, { sm2 with prio := 5 }].flatMap tkc) ∧ Below w.heap.size w w' := by
  have k := assign_any 1 100 0 smT [] [] (some ⟨b, 0, none⟩) 2 none 0 none 0 w (by decide) (by decide) (by decide) (sm_rd h) (Rd.nil _ _) (Rd.nil _ _) i64_100 sm_64
  have e1 : asgY 1 100 0 smT [] [] = 0 := by unfold asgY; rw [sm_why, sm_asg]; rfl
  have e2 : asgT 1 100 0 smT [] [] = [{ sm1 with prio := 3 }, { sm2 with prio := 5 }] := by unfold asgT; rw [sm_asg]; kernel_rfl
  rw [e1, e2] at k
  refine k.mono ?_
  rintro e w' ⟨-, h, hb⟩
  obtain ⟨A, ca, B, cb, D, cd, he, ho, -, -⟩ := h rfl
  exact ⟨A, ca, B, cb, D, cd, he, ho, hb⟩
theorem asg_sm' {w : World} {b : Nat} (h : w.heap[b]? = some (.cells (tkc sm1' ++ tkc sm2).toArray 43 (0, 0))) : Calls Tryz.prog 8 #[cfv 1 100 0 (some ⟨b, 0, none⟩) 2 2 none 0 0 none 0 0] w fun e w' =>
    e = .returned (.tuple #[cfv 0 0 0 none 0 0 none 0 0 none 0 0, .int .i64 11]) ∧ Below w.heap.size w w' := by
  have k := assign_any 1 100 0 [sm1', sm2] [] [] (some ⟨b, 0, none⟩) 2 none 0 none 0 w (by decide) (by decide) (by decide) (sm_rd' h) (Rd.nil _ _) (Rd.nil _ _) i64_100 sm_64'
  have e1 : asgY 1 100 0 [sm1', sm2] [] [] = 11 := by unfold asgY; rw [sm_why', sm_asg']; rfl
  rw [e1] at k
  exact k.mono fun e w' ⟨h, _, hb⟩ => ⟨h (by decide), hb⟩
theorem asg_no (w : World) : Calls Tryz.prog 8 #[cfv 0 0 0 none 0 0 none 0 0 none 0 0] w fun e w' =>
    e = .returned (.tuple #[cfv 0 0 0 none 0 0 none 0 0 none 0 0, .int .i64 2]) ∧ Below w.heap.size w w' := by
  have k := assign_any 0 0 0 [] [] [] none 0 none 0 none 0 w (by decide) (by decide) (by decide) (Rd.nil _ _) (Rd.nil _ _) (Rd.nil _ _) ⟨by decide, by decide⟩ (by simp)
  have e1 : asgY 0 0 0 [] [] [] = 2 := by unfold asgY; rw [zero_why]; rfl
  rw [e1] at k
  exact k.mono fun e w' ⟨h, _, hb⟩ => ⟨h (by decide), hb⟩
theorem ord_sm {w : World} {b : Nat} (h : w.heap[b]? = some (.cells (tkc sm1 ++ tkc sm2).toArray 43 (0, 0))) : Calls Tryz.prog 10 #[cfv 1 100 0 (some ⟨b, 0, none⟩) 2 2 none 0 0 none 0 0] w fun e w' =>
    ∃ (P : Option Addr) (cp : Nat), e = .returned (.tuple #[.slice P 2 cp, .int .i64 0]) ∧ w'.ownsRow w.heap.size 3 1 (.slice P 2 cp) 2 ([0, 1].map (.int .i64)) ∧ Below w.heap.size w w' := by
  have k := order_any 1 100 0 smT [] [] (some ⟨b, 0, none⟩) 2 none 0 none 0 w (by decide) (by decide) (by decide) (sm_rd h) (Rd.nil _ _) (Rd.nil _ _) i64_100 sm_64
  unfold RetOr at k
  rw [sm_why, sm_ord] at k
  refine k.mono ?_
  rintro e w' ⟨-, h, hb⟩
  obtain ⟨P, cp, he, ho⟩ := h rfl
  exact ⟨P, cp, he, ho, hb⟩
theorem with_sm {w : World} {b bq : Nat} (h : w.heap[b]? = some (.cells (tkc sm1 ++ tkc sm2).toArray 43 (0, 0))) {t : TypeId} (hq : w.heap[bq]? = some (.cells #[.int .i64 7, .int .i64 8] t (0, 0))) : Calls Tryz.prog 12 #[cfv 1 100 0 (some ⟨b, 0, none⟩) 2 2 none 0 0 none 0 0, .slice (some ⟨bq, 0, none⟩) 2 2] w fun e w' =>
    ∃ (A : Option Addr) (ca : Nat) (B : Option Addr) (cb : Nat) (D : Option Addr) (cd : Nat), e = .returned (.tuple #[cfv 1 100 0 A 2 ca B 0 cb D 0 cd, .int .i64 0]) ∧ w'.ownsRow w.heap.size 43 10 (.slice A 2 ca) 2 ([{ sm1 with prio := 7 }, { sm2 with prio := 8 }].flatMap tkc) ∧ Below w.heap.size w w' := by
  have k := with36_any 1 100 0 smT [] [] (some ⟨b, 0, none⟩) 2 none 0 none 0 [7, 8] (some ⟨bq, 0, none⟩) 2 w (by decide) (by decide) (by decide) (by decide) (sm_rd h) (Rd.nil _ _) (Rd.nil _ _) (rd_box hq)
  rw [if_pos (show ([7, 8] : List Int).length = smT.length from rfl)] at k
  refine k.mono ?_
  rintro e w' ⟨-, h, hb⟩
  obtain ⟨A, ca, B, cb, D, cd, he, ho, -, -⟩ := h rfl
  exact ⟨A, ca, B, cb, D, cd, he, ho, hb⟩
theorem with_no {w : World} {b bq : Nat} (h : w.heap[b]? = some (.cells (tkc sm1 ++ tkc sm2).toArray 43 (0, 0))) {t : TypeId} (hq : w.heap[bq]? = some (.cells #[.int .i64 7] t (0, 0))) : Calls Tryz.prog 12 #[cfv 1 100 0 (some ⟨b, 0, none⟩) 2 2 none 0 0 none 0 0, .slice (some ⟨bq, 0, none⟩) 1 1] w fun e w' =>
    e = .returned (.tuple #[cfv 0 0 0 none 0 0 none 0 0 none 0 0, .int .i64 2]) ∧ Below w.heap.size w w' := by
  have k := with36_any 1 100 0 smT [] [] (some ⟨b, 0, none⟩) 2 none 0 none 0 [7] (some ⟨bq, 0, none⟩) 1 w (by decide) (by decide) (by decide) (by decide) (sm_rd h) (Rd.nil _ _) (Rd.nil _ _) (rd_box hq)
  rw [if_neg (by decide)] at k
  exact k.mono fun e w' ⟨h, _, hb⟩ => ⟨h (by decide), hb⟩
set_option maxHeartbeats 4000000 in
set_option maxRecDepth 100000 in
theorem lives36 (w : World) : Calls Tryz.prog 7 #[] w fun e w' => e = .returned (.bool true) ∧ Below w.heap.size w w' := by
  have f0 := Lib.hid (fun w => small36 w)
  have c1 := Lib.hid (fun b w h => asg_sm (b := b) (w := w) h)
  have c2 := Lib.hid (fun b w h => ord_sm (b := b) (w := w) h)
  have c3 := Lib.hid (fun b bq t w h hq => with_sm (b := b) (bq := bq) (w := w) h (t := t) hq)
  have c4 := Lib.hid (fun b bq t w h hq => with_no (b := b) (bq := bq) (w := w) h (t := t) hq)
  have c5 := Lib.hid (fun w => asg_no w)
  have c6 := Lib.hid (fun b w h => asg_sm' (b := b) (w := w) h)
  have c7 := Lib.hid (fun A c B c' w h1 h2 => same_eq A c B c' [0, 1] w (by decide) h1 h2)
  unfold cfv at *
  go_enter Tryz.func7, Tryz.ntmps7
  go_wp2_with fail
  refine (f0.out _).mono ?_
  rintro e w0 ⟨rfl, hT, hb0⟩
  have HT0 := Lib.hid hT; have HB0 := Lib.hid hb0
  clear hT hb0 f0
  have HT := HT0; have HB := HB0; clear HT0 HB0
  have s0 := box_lt HT.out
  go_upto_region 2 with fail
  refine name_world fun W hW => ?_
  have HTn : Hid (W.heap[w.heap.size + 1]? = some (.cells (tkc sm1 ++ tkc sm2).toArray 43 (0, 0))) := Lib.hid (by rw [hW]; exact box_alloc HT.out _)
  have HBn : Hid (Below w.heap.size w W) := Lib.hid (by rw [hW]; exact HB.out.alloc HB.out.size _)
  have HCn : Hid (W.heap[w0.heap.size]? = some (.cells #[.int .i64 1, .int .i64 100, .int .i64 0, .slice (some ⟨w.heap.size + 1, 0, none⟩) 2 2, .slice none 0 0, .slice none 0 0] 28 (0, 0))) := Lib.hid (by rw [hW]; exact heap_alloc_new _ _)
  clear hW HT HB
  have HT := HTn; clear HTn
  have HB := HBn; clear HBn
  have HC := HCn; clear HCn
  have sW := box_lt HT.out
  obtain ⟨cx, cy⟩ := box_rules HC.out
  go_wp2_with fail
  refine (c1.out _ _ HT.out).mono ?_
  rintro e w1 ⟨A1, a1, B1, b1, D1, d1, rfl, hr, hb⟩
  have HTn : Hid (w1.heap[w.heap.size + 1]? = some (.cells (tkc sm1 ++ tkc sm2).toArray 43 (0, 0))) := Lib.hid (box_keep HT.out hb)
  have HBn : Hid (Below w.heap.size w w1) := Lib.hid (HB.out.trans (hb.mono HB.out.size))
  have HCn : Hid (w1.heap[w0.heap.size]? = some (.cells #[.int .i64 1, .int .i64 100, .int .i64 0, .slice (some ⟨w.heap.size + 1, 0, none⟩) 2 2, .slice none 0 0, .slice none 0 0] 28 (0, 0))) := Lib.hid (box_keep HC.out hb)
  try clear cx cy
  clear hb HT HB HC
  have HT := HTn; clear HTn
  have HB := HBn; clear HBn
  have HC := HCn; clear HCn
  have HR := Lib.hid hr; clear hr
  have s1 := box_lt HT.out
  go_upto_region 3 with fail
  refine name_world fun W1 hW1 => ?_
  have HTn : Hid (W1.heap[w.heap.size + 1]? = some (.cells (tkc sm1 ++ tkc sm2).toArray 43 (0, 0))) := Lib.hid (by rw [hW1]; exact box_alloc HT.out _)
  have HBn : Hid (Below w.heap.size w W1) := Lib.hid (by rw [hW1]; exact HB.out.alloc HB.out.size _)
  have HCn : Hid (W1.heap[w0.heap.size]? = some (.cells #[.int .i64 1, .int .i64 100, .int .i64 0, .slice (some ⟨w.heap.size + 1, 0, none⟩) 2 2, .slice none 0 0, .slice none 0 0] 28 (0, 0))) := Lib.hid (by rw [hW1]; exact box_alloc HC.out _)
  have HRn : Hid (W1.ownsRow (W.heap.size) 43 10 (.slice A1 2 a1) 2 ([{ sm1 with prio := 3 }, { sm2 with prio := 5 }].flatMap tkc)) := Lib.hid (by rw [hW1]; exact own_allocK HR.out _)
  have HDn : Hid (W1.heap[w1.heap.size]? = some (.cells #[.int .i64 1, .int .i64 100, .int .i64 0, .slice A1 2 a1, .slice B1 0 b1, .slice D1 0 d1] 28 (0, 0))) := Lib.hid (by rw [hW1]; exact heap_alloc_new _ _)
  clear hW1 HT HB HC HR
  have HT := HTn; clear HTn
  have HB := HBn; clear HBn
  have HC := HCn; clear HCn
  have HR := HRn; clear HRn
  have HD := HDn; clear HDn
  have sW1 := box_lt HT.out
  obtain ⟨cx, cy⟩ := box_rules HC.out
  go_wp2_with fail
  refine (c2.out _ _ HT.out).mono ?_
  rintro e w2 ⟨P2, cp2, rfl, hr, hb⟩
  have HTn : Hid (w2.heap[w.heap.size + 1]? = some (.cells (tkc sm1 ++ tkc sm2).toArray 43 (0, 0))) := Lib.hid (box_keep HT.out hb)
  have HBn : Hid (Below w.heap.size w w2) := Lib.hid (HB.out.trans (hb.mono HB.out.size))
  have HCn : Hid (w2.heap[w0.heap.size]? = some (.cells #[.int .i64 1, .int .i64 100, .int .i64 0, .slice (some ⟨w.heap.size + 1, 0, none⟩) 2 2, .slice none 0 0, .slice none 0 0] 28 (0, 0))) := Lib.hid (box_keep HC.out hb)
  have HRn : Hid (w2.ownsRow (W.heap.size) 43 10 (.slice A1 2 a1) 2 ([{ sm1 with prio := 3 }, { sm2 with prio := 5 }].flatMap tkc)) := Lib.hid (own_belowK HR.out hb)
  have HDn : Hid (w2.heap[w1.heap.size]? = some (.cells #[.int .i64 1, .int .i64 100, .int .i64 0, .slice A1 2 a1, .slice B1 0 b1, .slice D1 0 d1] 28 (0, 0))) := Lib.hid (box_keep HD.out hb)
  try clear cx cy
  clear hb HT HB HC HR HD
  have HT := HTn; clear HTn
  have HB := HBn; clear HBn
  have HC := HCn; clear HCn
  have HR := HRn; clear HRn
  have HD := HDn; clear HDn
  have HP := Lib.hid hr; clear hr
  have s2 := box_lt HT.out
  have s2s : w.heap.size + 1 < w2.heap.size + 1 := Nat.lt_succ_of_lt s2
  obtain ⟨cx, cy⟩ := box_rules HC.out
  go_wp2_with fail
  refine (c3.out _ _ _ _ (box_alloc HT.out _) (heap_alloc_new _ _)).mono ?_
  rintro e w3 ⟨A3, a3, B3, b3, D3, d3, rfl, hr, hb⟩
  have hb := ((Below.refl _ _).alloc (Nat.le_refl _) _).trans (hb.mono (by simp))
  have HTn : Hid (w3.heap[w.heap.size + 1]? = some (.cells (tkc sm1 ++ tkc sm2).toArray 43 (0, 0))) := Lib.hid (box_keep HT.out hb)
  have HBn : Hid (Below w.heap.size w w3) := Lib.hid (HB.out.trans (hb.mono HB.out.size))
  have HCn : Hid (w3.heap[w0.heap.size]? = some (.cells #[.int .i64 1, .int .i64 100, .int .i64 0, .slice (some ⟨w.heap.size + 1, 0, none⟩) 2 2, .slice none 0 0, .slice none 0 0] 28 (0, 0))) := Lib.hid (box_keep HC.out hb)
  have HRn : Hid (w3.ownsRow (W.heap.size) 43 10 (.slice A1 2 a1) 2 ([{ sm1 with prio := 3 }, { sm2 with prio := 5 }].flatMap tkc)) := Lib.hid (own_belowK HR.out hb)
  have HDn : Hid (w3.heap[w1.heap.size]? = some (.cells #[.int .i64 1, .int .i64 100, .int .i64 0, .slice A1 2 a1, .slice B1 0 b1, .slice D1 0 d1] 28 (0, 0))) := Lib.hid (box_keep HD.out hb)
  have HPn : Hid (w3.ownsRow (W1.heap.size) 3 1 (.slice P2 2 cp2) 2 ([0, 1].map (.int .i64))) := Lib.hid (own_belowK HP.out hb)
  try clear cx cy
  clear hb HT HB HC HR HD HP
  have HT := HTn; clear HTn
  have HB := HBn; clear HBn
  have HC := HCn; clear HCn
  have HR := HRn; clear HRn
  have HD := HDn; clear HDn
  have HP := HPn; clear HPn
  have HS : Hid (w3.ownsRow (w2.heap.size + 1) 43 10 (.slice A3 2 a3) 2 ([{ sm1 with prio := 7 }, { sm2 with prio := 8 }].flatMap tkc)) := Lib.hid (own_monoK hr (by simp)); clear hr
  have s3 := box_lt HT.out
  go_upto_region 5 with fail
  refine name_world fun W3 hW3 => ?_
  have HTn : Hid (W3.heap[w.heap.size + 1]? = some (.cells (tkc sm1 ++ tkc sm2).toArray 43 (0, 0))) := Lib.hid (by rw [hW3]; exact box_alloc HT.out _)
  have HBn : Hid (Below w.heap.size w W3) := Lib.hid (by rw [hW3]; exact HB.out.alloc HB.out.size _)
  have HCn : Hid (W3.heap[w0.heap.size]? = some (.cells #[.int .i64 1, .int .i64 100, .int .i64 0, .slice (some ⟨w.heap.size + 1, 0, none⟩) 2 2, .slice none 0 0, .slice none 0 0] 28 (0, 0))) := Lib.hid (by rw [hW3]; exact box_alloc HC.out _)
  have HRn : Hid (W3.ownsRow (W.heap.size) 43 10 (.slice A1 2 a1) 2 ([{ sm1 with prio := 3 }, { sm2 with prio := 5 }].flatMap tkc)) := Lib.hid (by rw [hW3]; exact own_allocK HR.out _)
  have HDn : Hid (W3.heap[w1.heap.size]? = some (.cells #[.int .i64 1, .int .i64 100, .int .i64 0, .slice A1 2 a1, .slice B1 0 b1, .slice D1 0 d1] 28 (0, 0))) := Lib.hid (by rw [hW3]; exact box_alloc HD.out _)
  have HPn : Hid (W3.ownsRow (W1.heap.size) 3 1 (.slice P2 2 cp2) 2 ([0, 1].map (.int .i64))) := Lib.hid (by rw [hW3]; exact own_allocK HP.out _)
  have HSn : Hid (W3.ownsRow (w2.heap.size + 1) 43 10 (.slice A3 2 a3) 2 ([{ sm1 with prio := 7 }, { sm2 with prio := 8 }].flatMap tkc)) := Lib.hid (by rw [hW3]; exact own_allocK HS.out _)
  have HEn : Hid (W3.heap[w3.heap.size]? = some (.cells #[.int .i64 1, .int .i64 100, .int .i64 0, .slice A3 2 a3, .slice B3 0 b3, .slice D3 0 d3] 28 (0, 0))) := Lib.hid (by rw [hW3]; exact heap_alloc_new _ _)
  clear hW3 HT HB HC HR HD HP HS
  have HT := HTn; clear HTn
  have HB := HBn; clear HBn
  have HC := HCn; clear HCn
  have HR := HRn; clear HRn
  have HD := HDn; clear HDn
  have HP := HPn; clear HPn
  have HS := HSn; clear HSn
  have HE := HEn; clear HEn
  have sW3 := box_lt HT.out
  obtain ⟨cx, cy⟩ := box_rules HC.out
  go_wp2_with fail
  refine (c4.out _ _ _ _ (box_alloc HT.out _) (heap_alloc_new _ _)).mono ?_
  rintro e w4 ⟨rfl, hb⟩
  have hb := ((Below.refl _ _).alloc (Nat.le_refl _) _).trans (hb.mono (by simp))
  have HTn : Hid (w4.heap[w.heap.size + 1]? = some (.cells (tkc sm1 ++ tkc sm2).toArray 43 (0, 0))) := Lib.hid (box_keep HT.out hb)
  have HBn : Hid (Below w.heap.size w w4) := Lib.hid (HB.out.trans (hb.mono HB.out.size))
  have HCn : Hid (w4.heap[w0.heap.size]? = some (.cells #[.int .i64 1, .int .i64 100, .int .i64 0, .slice (some ⟨w.heap.size + 1, 0, none⟩) 2 2, .slice none 0 0, .slice none 0 0] 28 (0, 0))) := Lib.hid (box_keep HC.out hb)
  have HRn : Hid (w4.ownsRow (W.heap.size) 43 10 (.slice A1 2 a1) 2 ([{ sm1 with prio := 3 }, { sm2 with prio := 5 }].flatMap tkc)) := Lib.hid (own_belowK HR.out hb)
  have HDn : Hid (w4.heap[w1.heap.size]? = some (.cells #[.int .i64 1, .int .i64 100, .int .i64 0, .slice A1 2 a1, .slice B1 0 b1, .slice D1 0 d1] 28 (0, 0))) := Lib.hid (box_keep HD.out hb)
  have HPn : Hid (w4.ownsRow (W1.heap.size) 3 1 (.slice P2 2 cp2) 2 ([0, 1].map (.int .i64))) := Lib.hid (own_belowK HP.out hb)
  have HSn : Hid (w4.ownsRow (w2.heap.size + 1) 43 10 (.slice A3 2 a3) 2 ([{ sm1 with prio := 7 }, { sm2 with prio := 8 }].flatMap tkc)) := Lib.hid (own_belowK HS.out hb)
  have HEn : Hid (w4.heap[w3.heap.size]? = some (.cells #[.int .i64 1, .int .i64 100, .int .i64 0, .slice A3 2 a3, .slice B3 0 b3, .slice D3 0 d3] 28 (0, 0))) := Lib.hid (box_keep HE.out hb)
  try clear cx cy
  clear hb HT HB HC HR HD HP HS HE
  have HT := HTn; clear HTn
  have HB := HBn; clear HBn
  have HC := HCn; clear HCn
  have HR := HRn; clear HRn
  have HD := HDn; clear HDn
  have HP := HPn; clear HPn
  have HS := HSn; clear HSn
  have HE := HEn; clear HEn
  go_upto_region 6 with fail
  refine name_world fun W4 hW4 => ?_
  have HTn : Hid (W4.heap[w.heap.size + 1]? = some (.cells (tkc sm1 ++ tkc sm2).toArray 43 (0, 0))) := Lib.hid (by rw [hW4]; exact box_alloc HT.out _)
  have HBn : Hid (Below w.heap.size w W4) := Lib.hid (by rw [hW4]; exact HB.out.alloc HB.out.size _)
  have HCn : Hid (W4.heap[w0.heap.size]? = some (.cells #[.int .i64 1, .int .i64 100, .int .i64 0, .slice (some ⟨w.heap.size + 1, 0, none⟩) 2 2, .slice none 0 0, .slice none 0 0] 28 (0, 0))) := Lib.hid (by rw [hW4]; exact box_alloc HC.out _)
  have HRn : Hid (W4.ownsRow (W.heap.size) 43 10 (.slice A1 2 a1) 2 ([{ sm1 with prio := 3 }, { sm2 with prio := 5 }].flatMap tkc)) := Lib.hid (by rw [hW4]; exact own_allocK HR.out _)
  have HDn : Hid (W4.heap[w1.heap.size]? = some (.cells #[.int .i64 1, .int .i64 100, .int .i64 0, .slice A1 2 a1, .slice B1 0 b1, .slice D1 0 d1] 28 (0, 0))) := Lib.hid (by rw [hW4]; exact box_alloc HD.out _)
  have HPn : Hid (W4.ownsRow (W1.heap.size) 3 1 (.slice P2 2 cp2) 2 ([0, 1].map (.int .i64))) := Lib.hid (by rw [hW4]; exact own_allocK HP.out _)
  have HSn : Hid (W4.ownsRow (w2.heap.size + 1) 43 10 (.slice A3 2 a3) 2 ([{ sm1 with prio := 7 }, { sm2 with prio := 8 }].flatMap tkc)) := Lib.hid (by rw [hW4]; exact own_allocK HS.out _)
  have HEn : Hid (W4.heap[w3.heap.size]? = some (.cells #[.int .i64 1, .int .i64 100, .int .i64 0, .slice A3 2 a3, .slice B3 0 b3, .slice D3 0 d3] 28 (0, 0))) := Lib.hid (by rw [hW4]; exact box_alloc HE.out _)
  clear hW4 HT HB HC HR HD HP HS HE
  have HT := HTn; clear HTn
  have HB := HBn; clear HBn
  have HC := HCn; clear HCn
  have HR := HRn; clear HRn
  have HD := HDn; clear HDn
  have HP := HPn; clear HPn
  have HS := HSn; clear HSn
  have HE := HEn; clear HEn
  have sW4 := box_lt HT.out
  go_wp2_with fail
  refine (c5.out _).mono ?_
  rintro e w5 ⟨rfl, hb⟩
  have HTn : Hid (w5.heap[w.heap.size + 1]? = some (.cells (tkc sm1 ++ tkc sm2).toArray 43 (0, 0))) := Lib.hid (box_keep HT.out hb)
  have HBn : Hid (Below w.heap.size w w5) := Lib.hid (HB.out.trans (hb.mono HB.out.size))
  have HCn : Hid (w5.heap[w0.heap.size]? = some (.cells #[.int .i64 1, .int .i64 100, .int .i64 0, .slice (some ⟨w.heap.size + 1, 0, none⟩) 2 2, .slice none 0 0, .slice none 0 0] 28 (0, 0))) := Lib.hid (box_keep HC.out hb)
  have HRn : Hid (w5.ownsRow (W.heap.size) 43 10 (.slice A1 2 a1) 2 ([{ sm1 with prio := 3 }, { sm2 with prio := 5 }].flatMap tkc)) := Lib.hid (own_belowK HR.out hb)
  have HDn : Hid (w5.heap[w1.heap.size]? = some (.cells #[.int .i64 1, .int .i64 100, .int .i64 0, .slice A1 2 a1, .slice B1 0 b1, .slice D1 0 d1] 28 (0, 0))) := Lib.hid (box_keep HD.out hb)
  have HPn : Hid (w5.ownsRow (W1.heap.size) 3 1 (.slice P2 2 cp2) 2 ([0, 1].map (.int .i64))) := Lib.hid (own_belowK HP.out hb)
  have HSn : Hid (w5.ownsRow (w2.heap.size + 1) 43 10 (.slice A3 2 a3) 2 ([{ sm1 with prio := 7 }, { sm2 with prio := 8 }].flatMap tkc)) := Lib.hid (own_belowK HS.out hb)
  have HEn : Hid (w5.heap[w3.heap.size]? = some (.cells #[.int .i64 1, .int .i64 100, .int .i64 0, .slice A3 2 a3, .slice B3 0 b3, .slice D3 0 d3] 28 (0, 0))) := Lib.hid (box_keep HE.out hb)
  try clear cx cy
  clear hb HT HB HC HR HD HP HS HE
  have HT := HTn; clear HTn
  have HB := HBn; clear HBn
  have HC := HCn; clear HCn
  have HR := HRn; clear HRn
  have HD := HDn; clear HDn
  have HP := HPn; clear HPn
  have HS := HSn; clear HSn
  have HE := HEn; clear HEn
  go_upto_region 7 with fail
  refine name_world fun W5 hW5 => ?_
  have HTn : Hid (W5.heap[w.heap.size + 1]? = some (.cells (tkc sm1 ++ tkc sm2).toArray 43 (0, 0))) := Lib.hid (by rw [hW5]; exact box_alloc HT.out _)
  have HBn : Hid (Below w.heap.size w W5) := Lib.hid (by rw [hW5]; exact HB.out.alloc HB.out.size _)
  have HCn : Hid (W5.heap[w0.heap.size]? = some (.cells #[.int .i64 1, .int .i64 100, .int .i64 0, .slice (some ⟨w.heap.size + 1, 0, none⟩) 2 2, .slice none 0 0, .slice none 0 0] 28 (0, 0))) := Lib.hid (by rw [hW5]; exact box_alloc HC.out _)
  have HRn : Hid (W5.ownsRow (W.heap.size) 43 10 (.slice A1 2 a1) 2 ([{ sm1 with prio := 3 }, { sm2 with prio := 5 }].flatMap tkc)) := Lib.hid (by rw [hW5]; exact own_allocK HR.out _)
  have HDn : Hid (W5.heap[w1.heap.size]? = some (.cells #[.int .i64 1, .int .i64 100, .int .i64 0, .slice A1 2 a1, .slice B1 0 b1, .slice D1 0 d1] 28 (0, 0))) := Lib.hid (by rw [hW5]; exact box_alloc HD.out _)
  have HPn : Hid (W5.ownsRow (W1.heap.size) 3 1 (.slice P2 2 cp2) 2 ([0, 1].map (.int .i64))) := Lib.hid (by rw [hW5]; exact own_allocK HP.out _)
  have HSn : Hid (W5.ownsRow (w2.heap.size + 1) 43 10 (.slice A3 2 a3) 2 ([{ sm1 with prio := 7 }, { sm2 with prio := 8 }].flatMap tkc)) := Lib.hid (by rw [hW5]; exact own_allocK HS.out _)
  have HEn : Hid (W5.heap[w3.heap.size]? = some (.cells #[.int .i64 1, .int .i64 100, .int .i64 0, .slice A3 2 a3, .slice B3 0 b3, .slice D3 0 d3] 28 (0, 0))) := Lib.hid (by rw [hW5]; exact box_alloc HE.out _)
  clear hW5 HT HB HC HR HD HP HS HE
  have HT := HTn; clear HTn
  have HB := HBn; clear HBn
  have HC := HCn; clear HCn
  have HR := HRn; clear HRn
  have HD := HDn; clear HDn
  have HP := HPn; clear HPn
  have HS := HSn; clear HSn
  have HE := HEn; clear HEn
  have sW5 := box_lt HT.out
  obtain ⟨cx, cy⟩ := box_rules HC.out
  obtain ⟨tx, ty⟩ := box_rules HT.out
  go_upto_region 8 with fail
  refine name_world fun V hV => ?_
  have HTn : Hid (V.heap[w.heap.size + 1]? = some (.cells (tkc sm1' ++ tkc sm2).toArray 43 (0, 0))) := Lib.hid (by rw [hV]; exact box_set (i := 5) HT.out _)
  have HBn : Hid (Below w.heap.size w V) := Lib.hid (by rw [hV]; exact HB.out.setCell (p := ⟨w.heap.size + 1, 5, none⟩) (Nat.le_succ _) _)
  have HCn : Hid (V.heap[w0.heap.size]? = some (.cells #[.int .i64 1, .int .i64 100, .int .i64 0, .slice (some ⟨w.heap.size + 1, 0, none⟩) 2 2, .slice none 0 0, .slice none 0 0] 28 (0, 0))) := Lib.hid (by rw [hV]; exact box_far HC.out (p := ⟨w.heap.size + 1, 5, none⟩) (by show _ ≠ w.heap.size + 1; omega) _)
  have HRn : Hid (V.ownsRow (W.heap.size) 43 10 (.slice A1 2 a1) 2 ([{ sm1 with prio := 3 }, { sm2 with prio := 5 }].flatMap tkc)) := Lib.hid (by rw [hV]; exact own_setK (p := ⟨w.heap.size + 1, 5, none⟩) HR.out (own_low HR.out (by first | exact s2s | omega)) _)
  have HDn : Hid (V.heap[w1.heap.size]? = some (.cells #[.int .i64 1, .int .i64 100, .int .i64 0, .slice A1 2 a1, .slice B1 0 b1, .slice D1 0 d1] 28 (0, 0))) := Lib.hid (by rw [hV]; exact box_far HD.out (p := ⟨w.heap.size + 1, 5, none⟩) (by show _ ≠ w.heap.size + 1; omega) _)
  have HPn : Hid (V.ownsRow (W1.heap.size) 3 1 (.slice P2 2 cp2) 2 ([0, 1].map (.int .i64))) := Lib.hid (by rw [hV]; exact own_setK (p := ⟨w.heap.size + 1, 5, none⟩) HP.out (own_low HP.out (by first | exact s2s | omega)) _)
  have HSn : Hid (V.ownsRow (w2.heap.size + 1) 43 10 (.slice A3 2 a3) 2 ([{ sm1 with prio := 7 }, { sm2 with prio := 8 }].flatMap tkc)) := Lib.hid (by rw [hV]; exact own_setK (p := ⟨w.heap.size + 1, 5, none⟩) HS.out (own_low HS.out (by first | exact s2s | omega)) _)
  have HEn : Hid (V.heap[w3.heap.size]? = some (.cells #[.int .i64 1, .int .i64 100, .int .i64 0, .slice A3 2 a3, .slice B3 0 b3, .slice D3 0 d3] 28 (0, 0))) := Lib.hid (by rw [hV]; exact box_far HE.out (p := ⟨w.heap.size + 1, 5, none⟩) (by show _ ≠ w.heap.size + 1; omega) _)
  clear hV cx cy tx ty HT HB HC HR HD HP HS HE
  have HT := HTn; clear HTn
  have HB := HBn; clear HBn
  have HC := HCn; clear HCn
  have HR := HRn; clear HRn
  have HD := HDn; clear HDn
  have HP := HPn; clear HPn
  have HS := HSn; clear HSn
  have HE := HEn; clear HEn
  obtain ⟨cx, cy⟩ := box_rules HC.out
  go_wp2_with fail
  refine (c6.out _ _ HT.out).mono ?_
  rintro e w6 ⟨rfl, hb⟩
  have HTn : Hid (w6.heap[w.heap.size + 1]? = some (.cells (tkc sm1' ++ tkc sm2).toArray 43 (0, 0))) := Lib.hid (box_keep HT.out hb)
  have HBn : Hid (Below w.heap.size w w6) := Lib.hid (HB.out.trans (hb.mono HB.out.size))
  have HCn : Hid (w6.heap[w0.heap.size]? = some (.cells #[.int .i64 1, .int .i64 100, .int .i64 0, .slice (some ⟨w.heap.size + 1, 0, none⟩) 2 2, .slice none 0 0, .slice none 0 0] 28 (0, 0))) := Lib.hid (box_keep HC.out hb)
  have HRn : Hid (w6.ownsRow (W.heap.size) 43 10 (.slice A1 2 a1) 2 ([{ sm1 with prio := 3 }, { sm2 with prio := 5 }].flatMap tkc)) := Lib.hid (own_belowK HR.out hb)
  have HDn : Hid (w6.heap[w1.heap.size]? = some (.cells #[.int .i64 1, .int .i64 100, .int .i64 0, .slice A1 2 a1, .slice B1 0 b1, .slice D1 0 d1] 28 (0, 0))) := Lib.hid (box_keep HD.out hb)
  have HPn : Hid (w6.ownsRow (W1.heap.size) 3 1 (.slice P2 2 cp2) 2 ([0, 1].map (.int .i64))) := Lib.hid (own_belowK HP.out hb)
  have HSn : Hid (w6.ownsRow (w2.heap.size + 1) 43 10 (.slice A3 2 a3) 2 ([{ sm1 with prio := 7 }, { sm2 with prio := 8 }].flatMap tkc)) := Lib.hid (own_belowK HS.out hb)
  have HEn : Hid (w6.heap[w3.heap.size]? = some (.cells #[.int .i64 1, .int .i64 100, .int .i64 0, .slice A3 2 a3, .slice B3 0 b3, .slice D3 0 d3] 28 (0, 0))) := Lib.hid (box_keep HE.out hb)
  try clear cx cy
  clear hb HT HB HC HR HD HP HS HE
  have HT := HTn; clear HTn
  have HB := HBn; clear HBn
  have HC := HCn; clear HCn
  have HR := HRn; clear HRn
  have HD := HDn; clear HDn
  have HP := HPn; clear HPn
  have HS := HSn; clear HSn
  have HE := HEn; clear HEn
  go_upto_region 9 with fail
  refine name_world fun W6 hW6 => ?_
  have HTn : Hid (W6.heap[w.heap.size + 1]? = some (.cells (tkc sm1' ++ tkc sm2).toArray 43 (0, 0))) := Lib.hid (by rw [hW6]; exact box_alloc HT.out _)
  have HBn : Hid (Below w.heap.size w W6) := Lib.hid (by rw [hW6]; exact HB.out.alloc HB.out.size _)
  have HCn : Hid (W6.heap[w0.heap.size]? = some (.cells #[.int .i64 1, .int .i64 100, .int .i64 0, .slice (some ⟨w.heap.size + 1, 0, none⟩) 2 2, .slice none 0 0, .slice none 0 0] 28 (0, 0))) := Lib.hid (by rw [hW6]; exact box_alloc HC.out _)
  have HRn : Hid (W6.ownsRow (W.heap.size) 43 10 (.slice A1 2 a1) 2 ([{ sm1 with prio := 3 }, { sm2 with prio := 5 }].flatMap tkc)) := Lib.hid (by rw [hW6]; exact own_allocK HR.out _)
  have HDn : Hid (W6.heap[w1.heap.size]? = some (.cells #[.int .i64 1, .int .i64 100, .int .i64 0, .slice A1 2 a1, .slice B1 0 b1, .slice D1 0 d1] 28 (0, 0))) := Lib.hid (by rw [hW6]; exact box_alloc HD.out _)
  have HPn : Hid (W6.ownsRow (W1.heap.size) 3 1 (.slice P2 2 cp2) 2 ([0, 1].map (.int .i64))) := Lib.hid (by rw [hW6]; exact own_allocK HP.out _)
  have HSn : Hid (W6.ownsRow (w2.heap.size + 1) 43 10 (.slice A3 2 a3) 2 ([{ sm1 with prio := 7 }, { sm2 with prio := 8 }].flatMap tkc)) := Lib.hid (by rw [hW6]; exact own_allocK HS.out _)
  have HEn : Hid (W6.heap[w3.heap.size]? = some (.cells #[.int .i64 1, .int .i64 100, .int .i64 0, .slice A3 2 a3, .slice B3 0 b3, .slice D3 0 d3] 28 (0, 0))) := Lib.hid (by rw [hW6]; exact box_alloc HE.out _)
  clear hW6 HT HB HC HR HD HP HS HE
  have HT := HTn; clear HTn
  have HB := HBn; clear HBn
  have HC := HCn; clear HCn
  have HR := HRn; clear HRn
  have HD := HDn; clear HDn
  have HP := HPn; clear HPn
  have HS := HSn; clear HSn
  have HE := HEn; clear HEn
  have sW6 := box_lt HT.out
  obtain ⟨dx, dy⟩ := box_rules HD.out
  obtain ⟨ex, ey⟩ := box_rules HE.out
  obtain ⟨gR, rfl, bR, lR, mR⟩ := own_lit (by decide) HR.out
  obtain ⟨gS, rfl, bS, lS, mS⟩ := own_lit (by decide) HS.out
  have r1 := mR 1 _ rfl; have r2 := mR 11 _ rfl; have q1 := mS 1 _ rfl; have q2 := mS 11 _ rfl
  have ld := box_lt HD.out; have le := box_lt HE.out
  have HPr := Lib.hid (own_rdK HP.out)
  go_wp2_with fail
  refine (c7.out P2 cp2 (some ⟨W6.heap.size, 0, none⟩) 2 _ (HPr.out.alloc _) (rd_box (heap_alloc_new _ _))).mono ?_
  rintro e w7 ⟨rfl, k, rfl⟩
  go_wp2
  go_ret
  exact ⟨by (first | rfl | simp), bdrewN (HB.out.alloc HB.out.size _) k⟩
end Go.Proofs.YtgampofpabllbaaGreat

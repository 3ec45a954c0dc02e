/- IrqNests, plain: what holds of lines behind each call, where the times at which lines were begun are kept. No premise of its own. -/
import Derived.Test.YtpncbkodhojicaaDoorQdJIc
namespace Go.Proofs.YtpncbkodhojicaaDoor
open Go.RowKit Go.Shelf
/-- What was begun, and when: behind any cut that is no older than a line's window, the turns that are away are the times. -/
structure TI (s : Qs) (times : List (List Int)) : Prop where
  len : times.length = s.ls.length
  cut : ∀ i, i < s.ls.length → ∀ c, s.last - (s.ln i).how.window ≤ c → (times.getD i []).filter (fun t => decide (c < t)) = (s.ln i).L.filter (fun t => decide (c < t))
theorem getD_set {α : Type} (l : List α) (i j : Nat) (x d : α) (hi : i < l.length) : (l.set i x).getD j d = if j = i then x else l.getD j d := by
  rw [List.getD_eq_getElem?_getD, List.getElem?_set]
  by_cases h : i = j
  · subst h
    rw [if_pos rfl, if_pos hi, if_pos rfl]; rfl
  · rw [if_neg h, if_neg (fun e => h e.symm), List.getD_eq_getElem?_getD]
theorem TI.same {s s' : Qs} {times : List (List Int)} (h : TI s times) (hl : s'.ls.length = s.ls.length) (hs : s'.last = s.last) (he : ∀ i, (s'.ln i).how = (s.ln i).how ∧ (s'.ln i).L = (s.ln i).L) : TI s' times :=
  ⟨h.len.trans hl.symm, fun i hi c hc => by
    rw [(he i).1, hs] at hc
    rw [(he i).2]
    exact h.cut i (by omega) c hc⟩
/-- The time goes on. -/
theorem TI.at' {s : Qs} {times : List (List Int)} (h : TI s times) {now : Int} (hn : s.last ≤ now) : TI (s.at' now) times :=
  ⟨h.len, fun i hi c hc => h.cut i hi c (by have hc : now - (s.ln i).how.window ≤ c := hc; omega)⟩
theorem back_cut {now window c : Int} (L : List Int) (hc : now - window ≤ c) : (backL now window L).filter (fun t => decide (c < t)) = L.filter (fun t => decide (c < t)) := by
  unfold backL
  rw [List.filter_filter]
  congr 1
  funext t
  by_cases h : c < t
  · rw [decide_eq_true h, decide_eq_true (by omega)]; rfl
  · rw [decide_eq_false h]; rfl
/-- A line's mask looks at the time. -/
theorem TI.look {s : Qs} {times : List (List Int)} (h : TI s times) {i : Nat} (hi : i < s.ls.length) {x : Lq} (hh : x.how = (s.ln i).how) (hL : x.L = backL s.last (s.ln i).how.window (s.ln i).L) : TI (s.put i x) times :=
  ⟨by rw [put_len]; exact h.len, fun j hj c hc => by
    rw [put_len] at hj
    rw [put_ln hi] at hc ⊢
    by_cases hji : j = i
    · subst hji
      rw [if_pos rfl] at hc ⊢
      rw [hh] at hc
      have hc : s.last - (s.ln j).how.window ≤ c := hc
      rw [hL, back_cut _ hc]
      exact h.cut j hj c hc
    · rw [if_neg hji] at hc ⊢
      exact h.cut j hj c hc⟩
/-- A line is begun. -/
theorem TI.enter {s : Qs} {times : List (List Int)} (h : TI s times) {i : Nat} (hi : i < s.ls.length) {x : Lq} (hh : x.how = (s.ln i).how) (hL : x.L = backL s.last (s.ln i).how.window (s.ln i).L ++ [s.last]) : TI (s.put i x) (times.set i (times.getD i [] ++ [s.last])) :=
  ⟨by rw [List.length_set, put_len]; exact h.len, fun j hj c hc => by
    rw [put_len] at hj
    rw [put_ln hi] at hc ⊢
    rw [getD_set _ _ _ _ _ (by rw [h.len]; exact hi)]
    by_cases hji : j = i
    · subst hji
      rw [if_pos rfl] at hc
      rw [if_pos rfl, if_pos rfl]
      rw [hh] at hc
      have hc : s.last - (s.ln j).how.window ≤ c := hc
      rw [hL, List.filter_append, List.filter_append, back_cut _ hc, h.cut j hj c hc]
    · rw [if_neg hji] at hc
      rw [if_neg hji, if_neg hji]
      exact h.cut j hj c hc⟩
theorem put_bs (s : Qs) (i : Nat) (x : Lq) : (s.put i x).bs = s.bs := rfl
/-- What a call of Take tells, of lines whose times are kept. -/
structure TkN (s : Qs) (times : List (List Int)) (R : Qs × Int × Bool) : Prop where
  how : R.1.ls.map Lq.how = s.ls.map Lq.how
  top : ∀ j, (R.1.ln j).top = (s.ln j).top
  last : R.1.last = s.last
  none : R.2.2 = false → TI R.1 times ∧ R.1.bs = s.bs
  some : R.2.2 = true → ∃ i, i < s.ls.length ∧ R.2.1 = (i : Int) ∧ s.most < s.pr i ∧ (((times.getD i []).filter (fun t => decide (s.last - (s.ln i).how.window < t))).length : Int) < (s.ln i).how.many ∧
    TI R.1 (times.set i (times.getD i [] ++ [s.last])) ∧ R.1.bs = s.bs ++ [⟨i, (s.ln i).top, (s.ln i).bottom⟩]
theorem map_put {α : Type} (fa : Lq → α) {s : Qs} {n : Nat} {x : Lq} (hn : n < s.ls.length) (hx : fa x = fa (s.ln n)) : (s.put n x).ls.map fa = s.ls.map fa := put_map fa hn hx
theorem most_put {s : Qs} {n : Nat} {x : Lq} (hn : n < s.ls.length) (hx : x.how = (s.ln n).how) : (s.put n x).most = s.most := by
  unfold Qs.most
  have e : (s.put n x).act = s.act := rfl
  rw [e, put_pr hn hx]; rfl
theorem take_nests {n : Nat} {times : List (List Int)} : ∀ (f : Nat) {s : Qs}, QI n s → TI s times → TkN s times (takeS s.last f s)
  | 0, s, _, ht => ⟨rfl, fun _ => rfl, rfl, fun _ => ⟨ht, rfl⟩, fun h => (by cases h)⟩
  | f + 1, s, h, ht => by
    rw [takeS]
    by_cases hn : s.next < 0
    · rw [if_pos hn]; exact ⟨rfl, fun _ => rfl, rfl, fun _ => ⟨ht, rfl⟩, fun h => (by cases h)⟩
    · rw [if_neg hn]
      obtain ⟨i, hi, hni, hm, hp⟩ := (next_or s).resolve_left (by omega)
      rw [hni, Int.toNat_natCast]
      by_cases hf : ((s.ln i).look s.last).full = true
      · rw [if_pos hf]
        have hk := take_nests (times := times) f (h.masks hi) (ht.look (x := { (s.ln i).look s.last with masked := true }) hi rfl rfl)
        have hlp : ∀ j, ((s.put i { (s.ln i).look s.last with masked := true }).ln j).top = (s.ln j).top ∧ ((s.put i { (s.ln i).look s.last with masked := true }).ln j).bottom = (s.ln j).bottom ∧ ((s.put i { (s.ln i).look s.last with masked := true }).ln j).how = (s.ln j).how := fun j => by
          rw [put_ln hi]
          by_cases hji : j = i
          · subst hji; rw [if_pos rfl]; exact ⟨rfl, rfl, rfl⟩
          · rw [if_neg hji]; exact ⟨rfl, rfl, rfl⟩
        refine ⟨hk.how.trans (map_put Lq.how hi rfl), fun j => (hk.top j).trans (hlp j).1, hk.last, hk.none, fun hb => ?_⟩
        obtain ⟨j, h1, h2, h3, h4, h5, h6⟩ := hk.some hb
        rw [put_len] at h1
        rw [(hlp j).2.2] at h4
        rw [(hlp j).1, (hlp j).2.1] at h6
        rw [most_put (x := { (s.ln i).look s.last with masked := true }) hi rfl, put_pr (x := { (s.ln i).look s.last with masked := true }) hi rfl] at h3
        exact ⟨j, h1, h2, h3, h4, h5, h6⟩
      · rw [if_neg hf]
        have he : ((s.ln i).enter s.last).how = (s.ln i).how := by unfold Lq.enter; split <;> rfl
        have heL : ((s.ln i).enter s.last).L = backL s.last (s.ln i).how.window (s.ln i).L ++ [s.last] := by
          unfold Lq.enter; rw [if_neg hf]; rfl
        have het : ((s.ln i).enter s.last).top = (s.ln i).top := by unfold Lq.enter; split <;> rfl
        have hT := ht.enter (x := { (s.ln i).enter s.last with pending := false, served := (s.ln i).served + 1 }) hi he heL
        refine ⟨map_put (x := { (s.ln i).enter s.last with pending := false, served := (s.ln i).served + 1 }) Lq.how hi he, fun j => ?_, rfl, fun h => (by cases h), fun _ => ⟨i, hi, rfl, hp, ?_, hT.same rfl rfl (fun _ => ⟨rfl, rfl⟩), rfl⟩⟩
        · show ((s.put i { (s.ln i).enter s.last with pending := false, served := (s.ln i).served + 1 }).ln j).top = _
          rw [put_ln hi]
          by_cases hji : j = i
          · subst hji; rw [if_pos rfl]; exact het
          · rw [if_neg hji]
        · rw [ht.cut i hi _ (Int.le_refl _)]
          have hfull : ¬ (s.ln i).how.many ≤ (((s.ln i).look s.last).L.length : Int) := by
            intro h9
            apply hf
            unfold Lq.full
            exact decide_eq_true h9
          have e : ((s.ln i).look s.last).L = (s.ln i).L.filter (fun t => decide (s.last - (s.ln i).how.window < t)) := rfl
          rw [e] at hfull
          omega
/-- What IrqNests keeps. -/
structure NI (ls : List Ln) (n : Nat) (s : Qs) (left want : List Int) (times : List (List Int)) : Prop where
  how : s.ls.map Lq.how = ls
  qi : QI n s
  llen : left.length = ls.length
  wlen : want.length = ls.length
  lft : ∀ b ∈ s.bs, left.getD b.line 0 = b.left
  wnt : ∀ i, i < ls.length → want.getD i 0 = (s.ln i).top
  ti : TI s times
  tl : ∀ i, i < ls.length → (times.getD i []).length ≤ n
  lr : ∀ x ∈ left, 0 ≤ x ∧ x ≤ 1099511627776
  wr : ∀ x ∈ want, 0 ≤ x ∧ x ≤ 1099511627776
section
variable {ls : List Ln} {n : Nat} {s : Qs} {left want : List Int} {times : List (List Int)}
theorem NI.len (h : NI ls n s left want times) : s.ls.length = ls.length := by rw [← h.how, List.length_map]
theorem NI.up (h : NI ls n s left want times) : NI ls (n + 1) s left want times := ⟨h.how, h.qi.up (Nat.le_succ n), h.llen, h.wlen, h.lft, h.wnt, h.ti, fun i hi => Nat.le_succ_of_le (h.tl i hi), h.lr, h.wr⟩
theorem NI.lnh (h : NI ls n s left want times) {i : Nat} (hi : i < ls.length) : (s.ln i).how = ls.getD i ⟨0, 0, 0, 0⟩ := by
  rw [ln_get (by rw [h.len]; exact hi)]
  have h1 : (s.ls.map Lq.how)[i]? = ls[i]? := by rw [h.how]
  rw [List.getElem?_map, List.getElem?_eq_getElem (by rw [h.len]; exact hi), List.getElem?_eq_getElem hi] at h1
  rw [List.getD_eq_getElem?_getD, List.getElem?_eq_getElem hi]
  injection h1
theorem mem_set_of {l : List Int} {i : Nat} {v x : Int} (h : x ∈ l.set i v) : x ∈ l ∨ x = v := List.mem_or_eq_of_mem_set h
/-- A raise that is taken. -/
theorem NI.raise (h : NI ls n s left want times) {line top bottom : Int} (hc : raiseC s line top bottom = 0) : (0 ≤ line ∧ line < ls.length) ∧ NI ls (n + 1) (raiseS s line top bottom) left (want.set line.toNat top) times := by
  have hr : 0 ≤ line ∧ line < s.ls.length ∧ 1 ≤ top ∧ top ≤ 1099511627776 ∧ 0 ≤ bottom ∧ bottom ≤ 1099511627776 := by
    unfold raiseC at hc
    by_cases hr : 0 ≤ line ∧ line < s.ls.length ∧ 1 ≤ top ∧ top ≤ 1099511627776 ∧ 0 ≤ bottom ∧ bottom ≤ 1099511627776
    · exact hr
    · rw [if_neg hr] at hc; omega
  have hl := h.len
  have hi : line.toNat < s.ls.length := by omega
  have hS : raiseS s line top bottom = s.put line.toNat { s.ln line.toNat with pending := true, top := top, bottom := bottom } := by
    unfold raiseS
    rw [hc, if_neg (by decide), if_pos rfl]
  refine ⟨by omega, ?_⟩
  have hq := h.qi.raise line top bottom
  rw [hS] at hq ⊢
  refine ⟨(map_put (x := { s.ln line.toNat with pending := true, top := top, bottom := bottom }) Lq.how hi rfl).trans h.how, hq, h.llen, by rw [List.length_set]; exact h.wlen, h.lft, fun i hi2 => ?_, h.ti.same (put_len ..) rfl (fun j => ?_), fun i hi2 => Nat.le_succ_of_le (h.tl i hi2), h.lr, fun x hx => ?_⟩
  · rw [getD_set _ _ _ _ _ (by rw [h.wlen]; omega), put_ln hi]
    by_cases hji : i = line.toNat
    · rw [if_pos hji, if_pos hji]
    · rw [if_neg hji, if_neg hji]; exact h.wnt i hi2
  · rw [put_ln hi]
    by_cases hji : j = line.toNat
    · subst hji; rw [if_pos rfl]; exact ⟨rfl, rfl⟩
    · rw [if_neg hji]; exact ⟨rfl, rfl⟩
  · rcases mem_set_of hx with hx | rfl
    · exact h.wr x hx
    · omega
/-- A raise that is not. -/
theorem NI.raiseNo (h : NI ls n s left want times) {line top bottom : Int} (hc : raiseC s line top bottom ≠ 0) : NI ls (n + 1) (raiseS s line top bottom) left want times := by
  have hq := h.qi.raise line top bottom
  unfold raiseS at hq ⊢
  by_cases h4 : raiseC s line top bottom = 4
  · have hr : 0 ≤ line ∧ line < s.ls.length := by
      unfold raiseC at h4
      by_cases hr : 0 ≤ line ∧ line < s.ls.length ∧ 1 ≤ top ∧ top ≤ 1099511627776 ∧ 0 ≤ bottom ∧ bottom ≤ 1099511627776
      · exact ⟨hr.1, hr.2.1⟩
      · rw [if_neg hr] at h4; omega
    have hi : line.toNat < s.ls.length := by omega
    rw [if_pos h4] at hq ⊢
    refine ⟨(map_put (x := { s.ln line.toNat with lost := (s.ln line.toNat).lost + 1 }) Lq.how hi rfl).trans h.how, hq, h.llen, h.wlen, h.lft, fun i hi2 => ?_, h.ti.same (put_len ..) rfl (fun j => ?_), fun i hi2 => Nat.le_succ_of_le (h.tl i hi2), h.lr, h.wr⟩
    · rw [put_ln hi]
      by_cases hji : i = line.toNat
      · rw [if_pos hji, ← hji]; exact h.wnt i hi2
      · rw [if_neg hji]; exact h.wnt i hi2
    · rw [put_ln hi]
      by_cases hji : j = line.toNat
      · subst hji; rw [if_pos rfl]; exact ⟨rfl, rfl⟩
      · rw [if_neg hji]; exact ⟨rfl, rfl⟩
  · rw [if_neg h4, if_neg hc]
    exact h.up
/-- Lines are unmasked. -/
theorem NI.unmask (h : NI ls n s left want times) {now : Int} (hc : timeC s now = true) : NI ls (n + 1) (unmaskS s now) left want times := by
  have hq := (h.qi.unmask hc).up (Nat.le_succ n)
  have ht : 0 ≤ now ∧ now ≤ 4503599627370496 ∧ s.last ≤ now := of_decide_eq_true hc
  have hu : ∀ x, (unmaskL now x).how = x.how ∧ (unmaskL now x).top = x.top := fun x => by
    unfold unmaskL
    split
    · split <;> exact ⟨rfl, rfl⟩
    · exact ⟨rfl, rfl⟩
  have hln : ∀ i, i < ls.length → (unmaskS s now).ln i = unmaskL now (s.ln i) := fun i hi => by
    have hi2 : i < s.ls.length := by rw [h.len]; exact hi
    rw [ln_get (s := unmaskS s now) (by show i < (s.ls.map _).length; rw [List.length_map]; exact hi2), ln_get hi2]
    show (s.ls.map (unmaskL now))[i]'_ = _
    rw [List.getElem_map]
  have hT := h.ti.at' ht.2.2
  refine ⟨?_, hq, h.llen, h.wlen, h.lft, fun i hi => ?_, ⟨?_, fun i hi c hcc => ?_⟩, fun i hi2 => Nat.le_succ_of_le (h.tl i hi2), h.lr, h.wr⟩
  · rw [← h.how]
    show (s.ls.map (unmaskL now)).map Lq.how = _
    rw [List.map_map]
    exact List.map_congr_left fun x _ => (hu x).1
  · rw [hln i hi, (hu _).2]; exact h.wnt i hi
  · show times.length = (s.ls.map _).length
    rw [List.length_map]; exact h.ti.len
  · have hi2 : i < s.ls.length := by
      have hi : i < (s.ls.map (unmaskL now)).length := hi
      rwa [List.length_map] at hi
    have hi3 : i < ls.length := by rw [← h.len]; exact hi2
    rw [hln i hi3] at hcc ⊢
    rw [(hu _).1] at hcc
    have h5 := hT.cut i hi2 c hcc
    rw [h5]
    show (s.ln i).L.filter _ = _
    unfold unmaskL
    split
    · split
      · exact (back_cut _ hcc).symm
      · exact (back_cut _ hcc).symm
    · rfl
theorem timeC_byS {t : Int} (h0 : 0 ≤ s.last) (h1 : s.last ≤ 4503599627370496) (N : Int) (ht : byS s.last N = t) : t = -1 ∨ timeC s t = true := by
  unfold byS at ht
  by_cases hn : N < 0 ∨ 4503599627370496 - s.last < N
  · rw [if_pos hn] at ht; exact .inl ht.symm
  · rw [if_neg hn] at ht
    right
    unfold timeC
    exact decide_eq_true (by omega)
end
end Go.Proofs.YtpncbkodhojicaaDoor

/- IrqNests, plain: what holds behind Take and Run. No premise of its own. -/
import Derived.Test.YtpncbkodhojicaaDoorQdKIc
namespace Go.Proofs.YtpncbkodhojicaaDoor
open Go.RowKit Go.Shelf
def ln0 : Ln := ⟨0, 0, 0, 0⟩
section
variable {ls : List Ln} {n : Nat} {s : Qs} {left want : List Int} {times : List (List Int)}
theorem pr_of {s' : Qs} (h : s'.ls.map Lq.how = ls) {i : Nat} (hi : i < ls.length) : s'.pr i = (ls.getD i ln0).prio := by
  have hl : s'.ls.length = ls.length := by rw [← h, List.length_map]
  unfold Qs.pr
  rw [ln_get (by omega)]
  have h1 : (s'.ls.map Lq.how)[i]? = ls[i]? := by rw [h]
  rw [List.getElem?_map, List.getElem?_eq_getElem (by omega), List.getElem?_eq_getElem hi] at h1
  rw [List.getD_eq_getElem?_getD, List.getElem?_eq_getElem hi]
  injection h1 with h1
  exact congrArg Ln.prio h1
theorem act_last {s : Qs} (h : s.bs.length ≠ 0) : s.act = s.bs[s.bs.length - 1]'(by omega) := by
  unfold Qs.act
  rw [List.getD_eq_getElem?_getD, List.getElem?_eq_getElem (by omega)]; rfl
theorem lines_ne (h : QI n s) {j : Nat} (hj : j < s.bs.length - 1) : (s.bs[j]'(by omega)).line ≠ s.act.line := by
  have hne : s.bs.length ≠ 0 := by omega
  have h1 := (List.pairwise_iff_getElem.1 h.bsort) j (s.bs.length - 1) (by rw [List.length_map]; omega) (by rw [List.length_map]; omega) hj
  rw [List.getElem_map, List.getElem_map, ← act_last hne] at h1
  intro e
  rw [e] at h1
  exact absurd h1 (Int.lt_irrefl _)
theorem NI.tkn (h : NI ls n s left want times) {now : Int} (hc : timeC s now = true) : TkN (s.at' now) times (takeS now (s.ls.length + 1) (s.at' now)) := by
  have ht : 0 ≤ now ∧ now ≤ 4503599627370496 ∧ s.last ≤ now := of_decide_eq_true hc
  exact take_nests (s.ls.length + 1) (h.qi.at hc) (h.ti.at' ht.2.2)
theorem takeA_on {now : Int} (hc : timeC s now = true) : takeA s now = ((takeS now (s.ls.length + 1) (s.at' now)).1, (takeS now (s.ls.length + 1) (s.at' now)).2.1, (takeS now (s.ls.length + 1) (s.at' now)).2.2, 0) := by
  unfold takeA; rw [if_pos hc]
theorem NI.take0 (h : NI ls n s left want times) {now : Int} (hc : timeC s now = true) (hb : (takeA s now).2.2.1 = false) : NI ls (n + 1) (takeA s now).1 left want times ∧ (takeA s now).1.last = now ∧ (takeA s now).1.bs = s.bs := by
  have hq := h.qi.takeA now
  have hk := h.tkn hc
  rw [takeA_on hc] at hb hq ⊢
  dsimp only at hb hq ⊢
  obtain ⟨h1, h2⟩ := hk.none hb
  exact ⟨⟨hk.how.trans h.how, hq, h.llen, h.wlen, fun b hb2 => h.lft b (by rw [h2] at hb2; exact hb2), fun i hi => (h.wnt i hi).trans (hk.top i).symm, h1, fun i hi => Nat.le_succ_of_le (h.tl i hi), h.lr, h.wr⟩, hk.last, h2⟩
theorem getD_mem {l : List Int} {i : Nat} (hi : i < l.length) : l.getD i 0 ∈ l := by
  rw [List.getD_eq_getElem?_getD, List.getElem?_eq_getElem hi]; exact List.getElem_mem hi
theorem NI.take1 (h : NI ls n s left want times) {now : Int} (hc : timeC s now = true) (hb : (takeA s now).2.2.1 = true) :
    ∃ i, i < ls.length ∧ (takeA s now).2.1 = (i : Int) ∧ (s.bs.length ≠ 0 → (ls.getD s.act.line ln0).prio < (ls.getD i ln0).prio) ∧ ((((times.getD i []).filter (fun t => decide (now - (ls.getD i ln0).window < t))).length : Nat) : Int) < (ls.getD i ln0).many ∧
      NI ls (n + 1) (takeA s now).1 (left.set i (want.getD i 0)) want (times.set i (times.getD i [] ++ [now])) ∧ (takeA s now).1.bs = s.bs ++ [⟨i, want.getD i 0, (s.ln i).bottom⟩] ∧ (takeA s now).1.last = now := by
  have hq := h.qi.takeA now
  have hk := h.tkn hc
  rw [takeA_on hc] at hb hq ⊢
  dsimp only at hb hq ⊢
  obtain ⟨i, h1, h2, h3, h4, h5, h6⟩ := hk.some hb
  have h1 : i < s.ls.length := h1
  have hi : i < ls.length := by rw [← h.len]; exact h1
  have hhow := h.lnh hi
  have h4 : (((times.getD i []).filter (fun t => decide (now - (s.ln i).how.window < t))).length : Int) < (s.ln i).how.many := h4
  rw [hhow] at h4
  have h5 : TI (takeS now (s.ls.length + 1) (s.at' now)).1 (times.set i (times.getD i [] ++ [now])) := h5
  have h6 : (takeS now (s.ls.length + 1) (s.at' now)).1.bs = s.bs ++ [⟨i, (s.ln i).top, (s.ln i).bottom⟩] := h6
  have hw := h.wnt i hi
  rw [← hw] at h6
  have hdist : ∀ b ∈ s.bs, b.line ≠ i := fun b hb e => by
    have h7 := hq.bsort
    rw [h6, List.map_append, List.pairwise_append] at h7
    have h8 := h7.2.2 _ (List.mem_map.2 ⟨b, hb, rfl⟩) _ (List.mem_map.2 ⟨_, List.mem_singleton.2 rfl, rfl⟩)
    dsimp only at h8
    rw [e] at h8
    exact absurd h8 (Int.lt_irrefl _)
  refine ⟨i, hi, h2, fun h0 => ?_, h4, ⟨hk.how.trans h.how, hq, by rw [List.length_set]; exact h.llen, h.wlen, fun b hb => ?_, fun j hj => (h.wnt j hj).trans (hk.top j).symm, h5, fun j hj => ?_, fun x hx => ?_, h.wr⟩, h6, hk.last⟩
  · have hal : s.act.line < ls.length := by rw [← h.len]; exact h.qi.bline _ (act_mem h0)
    have h3 : s.most < s.pr i := h3
    unfold Qs.most at h3
    rw [if_neg h0, pr_of h.how hal, pr_of h.how hi] at h3
    exact h3
  · rw [h6] at hb
    rw [getD_set _ _ _ _ _ (by rw [h.llen]; exact hi)]
    rcases List.mem_append.1 hb with hb | hb
    · rw [if_neg (hdist b hb)]; exact h.lft b hb
    · obtain rfl := List.mem_singleton.1 hb
      rw [if_pos rfl]
  · rw [getD_set _ _ _ _ _ (by rw [h.ti.len, h.len]; exact hi)]
    split
    · rename_i hji
      subst hji
      rw [List.length_append]
      exact Nat.succ_le_succ (h.tl j hj)
    · exact Nat.le_succ_of_le (h.tl j hj)
  · rcases mem_set_of hx with hx | rfl
    · exact h.lr x hx
    · exact h.wr _ (getD_mem (by rw [h.wlen]; exact hi))
theorem takeNo {now : Int} (hc : timeC s now = false) : takeA s now = (s, 0, false, 1) := by
  unfold takeA; rw [hc, if_neg (by decide)]
/-- How far a run goes. -/
def runN (s : Qs) (N : Int) : Int := max (min N (leftS s)) 0
theorem NI.actl (h : NI ls n s left want times) (h0 : s.bs.length ≠ 0) : s.act.line < ls.length ∧ left.getD s.act.line 0 = s.act.left ∧ leftS s = s.act.left ∧ 0 ≤ s.act.left ∧ s.act.left ≤ 1099511627776 :=
  ⟨by rw [← h.len]; exact h.qi.bline _ (act_mem h0), h.lft _ (act_mem h0), if_neg h0, h.qi.bleft _ (act_mem h0)⟩
theorem NI.run (h : NI ls n s left want times) (h0 : s.bs.length ≠ 0) (N : Int) : 0 ≤ runN s N ∧ runN s N ≤ s.act.left ∧ runC s (runN s N) = 0 ∧ runD s (runN s N) = decide (s.act.left - runN s N = 0) ∧ NI ls n (runS s (runN s N)) (left.set s.act.line (s.act.left - runN s N)) want times ∧ (runS s (runN s N)).last = s.last ∧
    (runS s (runN s N)).bs.map (fun b => (b.line : Int)) = if s.act.left - runN s N = 0 then (s.bs.map fun b => (b.line : Int)).take (s.bs.length - 1) else s.bs.map fun b => (b.line : Int) := by
  obtain ⟨hl, hlf, hls, a0, a1⟩ := h.actl h0
  have hr0 : 0 ≤ runN s N := by unfold runN; omega
  have hr1 : runN s N ≤ s.act.left := by unfold runN; rw [hls]; omega
  generalize runN s N = k at *
  have hc : runC s k = 0 := by unfold runC; rw [if_neg h0, if_neg (by omega)]
  have hd : runD s k = decide (s.act.left - k = 0) := by unfold runD; rw [hc]; simp
  have hq := h.qi.run k
  have hal := act_last h0
  refine ⟨hr0, hr1, hc, hd, ?_⟩
  unfold runS at hq ⊢
  rw [if_neg (by rw [hc]; decide)] at hq ⊢
  have hlr : ∀ x ∈ left.set s.act.line (s.act.left - k), 0 ≤ x ∧ x ≤ 1099511627776 := fun x hx => by
    rcases mem_set_of hx with hx | rfl
    · exact h.lr x hx
    · omega
  by_cases hz : s.act.left - k = 0
  · rw [if_pos hz] at hq ⊢
    refine ⟨⟨h.how, hq, by rw [List.length_set]; exact h.llen, h.wlen, fun b hb => ?_, h.wnt, h.ti.same rfl rfl (fun _ => ⟨rfl, rfl⟩), h.tl, hlr, h.wr⟩, rfl, ?_⟩
    · obtain ⟨j, hj, rfl⟩ := List.getElem_of_mem hb
      have hj2 : j < s.bs.length - 1 := by
        have hj : j < (s.bs.take (s.bs.length - 1)).length := hj
        rw [List.length_take] at hj; omega
      rw [getD_set _ _ _ _ _ (by rw [h.llen]; exact hl)]
      rw [show (s.bs.take (s.bs.length - 1))[j]'hj = s.bs[j]'(by omega) from List.getElem_take]
      rw [if_neg (lines_ne h.qi hj2)]
      exact h.lft _ (List.getElem_mem _)
    · rw [if_pos hz]
      show (s.bs.take _).map _ = _
      rw [List.map_take]
  · rw [if_neg hz] at hq ⊢
    refine ⟨⟨h.how, hq, by rw [List.length_set]; exact h.llen, h.wlen, fun b hb => ?_, h.wnt, h.ti.same rfl rfl (fun _ => ⟨rfl, rfl⟩), h.tl, hlr, h.wr⟩, rfl, ?_⟩
    · obtain ⟨j, hj, rfl⟩ := List.getElem_of_mem hb
      have hj2 : j < s.bs.length := by
        have hj : j < (s.bs.set (s.bs.length - 1) { s.act with left := s.act.left - k }).length := hj
        rw [List.length_set] at hj; omega
      rw [getD_set _ _ _ _ _ (by rw [h.llen]; exact hl)]
      by_cases hji : s.bs.length - 1 = j
      · rw [show (s.bs.set (s.bs.length - 1) { s.act with left := s.act.left - k })[j]'hj = { s.act with left := s.act.left - k } by rw [List.getElem_set, if_pos hji]]
        rw [if_pos rfl]
      · rw [show (s.bs.set (s.bs.length - 1) { s.act with left := s.act.left - k })[j]'hj = s.bs[j] by rw [List.getElem_set, if_neg hji]]
        rw [if_neg (lines_ne h.qi (by omega))]
        exact h.lft _ (List.getElem_mem _)
    · rw [if_neg hz]
      exact act_set (by omega) _
end
end Go.Proofs.YtpncbkodhojicaaDoor

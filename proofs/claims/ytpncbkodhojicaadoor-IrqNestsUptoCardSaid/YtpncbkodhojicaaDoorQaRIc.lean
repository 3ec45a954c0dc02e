/- Package irq: the controller of lines, plain. No premise of its own. -/
import Derived.Test.YtpncbkodhojicaaDoorQaPIc
import Derived.Test.YtpncbkodhojicaaDoorIqC2
namespace Go.Proofs.YtpncbkodhojicaaDoor
open Go.RowKit Go.Shelf
/-- How many lines the controller has. -/
def qN (s : Qs) : Nat := if s.ls.length = 0 then 1 else s.ls.length
def qPrio (s : Qs) : List Int := if s.ls.length = 0 then [1] else s.ls.map fun x => x.how.prio
/-- The controller of lines. -/
def qIC (s : Qs) : IC := ⟨mk fun i => decide (i < s.ls.length) && (s.ln i).pending, mk fun i => decide (i < qN s) && !(s.ln i).masked, 0, gB (qN s), qPrio s, 0, s.bs.map fun b => (b.line : Int)⟩
theorem qPrio_len (s : Qs) : (qPrio s).length = qN s := by
  unfold qPrio qN; split
  · rfl
  · rw [List.length_map]
theorem qN_le {n : Nat} {s : Qs} (h : QI n s) : 1 ≤ qN s ∧ qN s ≤ 64 ∧ s.ls.length ≤ qN s := by
  have := h.len
  unfold qN; split <;> omega
theorem qPrio_get {s : Qs} {i : Nat} (h : i < s.ls.length) : (qPrio s).getD i 0 = s.pr i := by
  unfold qPrio Qs.pr
  rw [if_neg (by omega), ln_get h, List.getD_eq_getElem?_getD, List.getElem?_map, List.getElem?_eq_getElem h]
  rfl
theorem qIC_pr {s : Qs} {i : Nat} (h : i < s.ls.length) : (qIC s).pr (i : Int) = s.pr i := by
  unfold IC.pr
  rw [Int.toNat_natCast]
  exact qPrio_get h
theorem qIC_st {s : Qs} {i : Nat} (h : i < s.bs.length) : (qIC s).st i = ((s.bs[i]).line : Int) := by
  unfold IC.st qIC
  dsimp only
  rw [List.getD_eq_getElem?_getD, List.getElem?_map, List.getElem?_eq_getElem h]
  rfl
theorem qIC_fits {n : Nat} {s : Qs} (h : QI n s) (hb : s.bs.length ≤ 549755813888) : (qIC s).Fits where
  p := mk_lt _
  e := mk_lt _
  r := by show (0 : Nat) < _; decide
  g := mk_lt _
  prio := by show (qPrio s).length ≤ _; rw [qPrio_len]; have := (qN_le h).2.1; omega
  stack := by show (s.bs.map _).length ≤ _; rw [List.length_map]; exact hb
theorem qIC_ok {n : Nat} {s : Qs} (h : QI n s) : (qIC s).ok where
  len1 := by show 1 ≤ (qPrio s).length; rw [qPrio_len]; exact (qN_le h).1
  len2 := by show (qPrio s).length ≤ 64; rw [qPrio_len]; exact (qN_le h).2.1
  prio i hi := by
    have hi : i < (qPrio s).length := hi
    show oddP ((qPrio s).getD i 0) = false
    by_cases h0 : s.ls.length = 0
    · unfold qPrio at hi ⊢
      rw [if_pos h0] at hi ⊢
      have : i = 0 := by simpa using hi
      subst this; rfl
    · rw [qPrio_len] at hi
      unfold qN at hi
      rw [if_neg h0] at hi
      rw [qPrio_get hi]
      have := (h.line hi).prio
      unfold oddP Qs.pr
      rw [decide_eq_false (by omega), decide_eq_false (by omega)]; rfl
  sets i h1 h2 := by
    have h1 : (qPrio s).length ≤ i := h1
    rw [qPrio_len] at h1
    have h3 := (qN_le h).2.2
    refine ⟨?_, ?_, Nat.zero_testBit i, ?_⟩
    · show (mk _).testBit i = false
      rw [mk_bit, decide_eq_false (show ¬ i < s.ls.length by omega)]; simp
    · show (mk _).testBit i = false
      rw [mk_bit, decide_eq_false (show ¬ i < qN s by omega)]; simp
    · show (gB (qN s)).testBit i = false
      rw [gB_bit, decide_eq_false (show ¬ i < qN s by omega)]; simp
  rg i hi hr := by
    have : (0 : Nat).testBit i = true := hr
    rw [Nat.zero_testBit] at this; cases this
  t0 := Int.le_refl _
  t1 := by show (0 : Int) ≤ 15; decide
  stack i hi := by
    have hi : i < s.bs.length := by
      have : i < (s.bs.map fun b => (b.line : Int)).length := hi
      rwa [List.length_map] at this
    have hb := h.bline _ (List.getElem_mem hi)
    have hN := (qN_le h).2.2
    have hp := (h.line hb).prio
    unfold IC.good
    rw [qIC_st hi, qIC_pr hb]
    refine ⟨by omega, by show ((s.bs[i]).line : Int) < ((qPrio s).length : Nat); rw [qPrio_len]; omega, ?_⟩
    cases i with
    | zero => show (0 : Int) < s.pr _; unfold Qs.pr; omega
    | succ i =>
      show (qIC s).pr ((qIC s).st i) < _
      have hi2 : i < s.bs.length := by omega
      rw [qIC_st hi2, qIC_pr (h.bline _ (List.getElem_mem hi2))]
      have := (List.pairwise_iff_getElem.1 h.bsort) i (i + 1) (by rw [List.length_map]; exact hi2) (by rw [List.length_map]; exact hi) (by omega)
      rwa [List.getElem_map, List.getElem_map] at this
theorem begun_has (s : Qs) (i : Nat) : (s.bs.map fun b => (b.line : Int)).contains (i : Int) = s.begun i := by
  unfold Qs.begun
  rw [Bool.eq_iff_iff, List.contains_iff_mem, List.any_eq_true]
  constructor
  · intro h
    obtain ⟨b, hb, he⟩ := List.mem_map.1 h
    exact ⟨b, hb, decide_eq_true (by omega)⟩
  · rintro ⟨b, hb, he⟩
    exact List.mem_map.2 ⟨b, hb, by have := of_decide_eq_true he; omega⟩
theorem waits_bit {n : Nat} {s : Qs} (h : QI n s) {i : Nat} (hi : i < 64) : (qIC s).waits.testBit i = (decide (i < s.ls.length) && s.may i) := by
  have hN := (qN_le h).2.2
  unfold IC.waits
  rw [Nat.testBit_and, Nat.testBit_and, compl_bit (ofList_lt _) i hi, ofList_bit]
  show ((mk _).testBit i && (mk _).testBit i && !(decide (i < 64) && (s.bs.map fun b => (b.line : Int)).contains (i : Int))) = _
  rw [mk_bit, mk_bit, begun_has, decide_eq_true hi]
  by_cases hl : i < s.ls.length
  · rw [decide_eq_true hl, decide_eq_true (show i < qN s by omega)]
    unfold Qs.may
    cases (s.ln i).pending <;> cases (s.ln i).masked <;> cases s.begun i <;> rfl
  · rw [decide_eq_false hl]; simp
theorem q_level {n : Nat} {s : Qs} (h : QI n s) : (qIC s).level = s.most := by
  unfold IC.level Qs.most
  show (if (s.bs.map fun b => (b.line : Int)).length = 0 then (0 : Int) else max 0 ((qIC s).pr ((qIC s).st ((s.bs.map fun b => (b.line : Int)).length - 1)))) = _
  rw [List.length_map]
  by_cases h0 : s.bs.length = 0
  · rw [if_pos h0, if_pos h0]
  · rw [if_neg h0, if_neg h0, qIC_st (show s.bs.length - 1 < s.bs.length by omega)]
    have hact : s.act = s.bs[s.bs.length - 1]'(by omega) := by
      unfold Qs.act
      rw [List.getD_eq_getElem?_getD, List.getElem?_eq_getElem (by omega)]; rfl
    rw [← hact, qIC_pr (h.bline _ (act_mem h0))]
    have := (h.line (h.bline _ (act_mem h0))).prio
    unfold Qs.pr at *
    exact Int.max_eq_right (by omega)
/-- The controller's choice among the first so many lines is the lines'. -/
theorem pick_q {n : Nat} {s : Qs} (h : QI n s) : ∀ k, k ≤ s.ls.length → (qIC s).pick (bitsTo (qIC s).waits k) (64, s.most) = (if (pickQ s k).1 = -1 then 64 else (pickQ s k).1, (pickQ s k).2)
  | 0, _ => by
    show ((64 : Int), s.most) = _
    rw [pickQ]; rfl
  | k + 1, hk => by
    have ih := pick_q h k (by omega)
    have hk64 : k < 64 := by have := h.len; omega
    have hpk : pickQ s (k + 1) = if s.may k = true ∧ (pickQ s k).2 < s.pr k then ((k : Int), s.pr k) else pickQ s k := rfl
    rw [bitsTo_succ, hpk, waits_bit h hk64, decide_eq_true (show k < s.ls.length by omega), Bool.true_and]
    clear hpk
    cases hm : s.may k with
    | false =>
      have e0 : ¬ (false = true ∧ (pickQ s k).2 < s.pr k) := fun h9 => (by cases h9.1)
      rw [if_neg e0, if_neg (by decide), List.append_nil, ih]
    | true =>
      rw [if_pos rfl, IC.pick_snoc, ih, qIC_pr (show k < s.ls.length by omega)]
      by_cases hc : (pickQ s k).2 < s.pr k
      · have e0 : true = true ∧ (pickQ s k).2 < s.pr k := ⟨rfl, hc⟩
        rw [if_pos e0]
        show (if (pickQ s k).2 < s.pr k then ((k : Int), s.pr k) else _) = (if ((k : Int)) = -1 then (64 : Int) else (k : Int), s.pr k)
        rw [if_pos hc, if_neg (by omega)]
      · have e0 : ¬ (true = true ∧ (pickQ s k).2 < s.pr k) := fun h9 => hc h9.2
        rw [if_neg e0]
        show (if (pickQ s k).2 < s.pr k then ((k : Int), s.pr k) else _) = _
        rw [if_neg hc]
theorem bits_stop {b n m : Nat} (h : ∀ i, n ≤ i → i < m → b.testBit i = false) (hm : n ≤ m) : bitsTo b m = bitsTo b n := by
  induction m with
  | zero => have : n = 0 := by omega
            subst this; rfl
  | succ m ih =>
    by_cases he : n = m + 1
    · rw [he]
    · rw [bitsTo_succ, h m (by omega) (by omega), ih (fun i h1 h2 => h i h1 (by omega)) (by omega)]
      simp
theorem best_q {n : Nat} {s : Qs} (h : QI n s) : (qIC s).best = if s.next = -1 then 64 else s.next := by
  have hl := h.len
  unfold IC.best
  rw [q_level h]
  unfold bitsOf
  rw [bits_stop (n := s.ls.length) (fun i h1 h2 => by rw [waits_bit h h2, decide_eq_false (by omega)]; rfl) hl, pick_q h _ (Nat.le_refl _)]
  rfl
/-- Two controllers of lines that differ in what they say of their sets. -/
theorem qIC_ext {s s' : Qs} (hl : s'.ls.length = s.ls.length) (hp : qPrio s' = qPrio s) (p e : Nat) (st : List Int) (h1 : (qIC s').p = p) (h2 : (qIC s').e = e) (h3 : (qIC s').stack = st) : qIC s' = { qIC s with p := p, e := e, stack := st } := by
  have hN : qN s' = qN s := by unfold qN; rw [hl]
  subst h1 h2 h3
  unfold qIC
  rw [hN, hp]
theorem put_prio {s : Qs} {n : Nat} {x : Lq} (hn : n < s.ls.length) (hx : x.how = (s.ln n).how) : qPrio (s.put n x) = qPrio s := by
  unfold qPrio
  rw [put_len]
  split
  · rfl
  · refine List.ext_getElem (by rw [List.length_map, List.length_map, put_len]) fun i h1 h2 => ?_
    have h3 : i < s.ls.length := by rw [List.length_map, put_len] at h1; exact h1
    rw [List.getElem_map, List.getElem_map]
    have e1 := put_ln (s := s) (x := x) hn i
    rw [ln_get (by rw [put_len]; exact h3), ln_get h3] at e1
    rw [e1]
    split
    · rename_i hi
      subst hi
      rw [hx, ln_get h3]
    · rfl
/-- A line turns pending, or not. -/
theorem qIC_pend {n : Nat} {s : Qs} (h : QI n s) {i : Nat} {x : Lq} (hi : i < s.ls.length) (hx : x.how = (s.ln i).how) (hm : x.masked = (s.ln i).masked) : qIC (s.put i x) = { qIC s with p := setB (qIC s).p i x.pending } := by
  have hl := h.len
  refine (qIC_ext (put_len s i x) (put_prio hi hx) _ _ _ ?_ ?_ rfl).trans rfl
  · show mk _ = setB (mk _) i x.pending
    unfold setB
    refine mk_congr fun j hj => ?_
    rw [put_len, put_ln hi, mk_bit]
    by_cases hji : j = i
    · subst hji
      rw [if_pos rfl, if_pos rfl, decide_eq_true hi, Bool.true_and]
    · rw [if_neg hji, if_neg hji, decide_eq_true hj, Bool.true_and]
  · show mk _ = mk _
    refine mk_congr fun j hj => ?_
    have hN : qN (s.put i x) = qN s := by unfold qN; rw [put_len]
    rw [hN, put_ln hi]
    by_cases hji : j = i
    · subst hji; rw [if_pos rfl, hm]
    · rw [if_neg hji]
/-- A line is masked, or not. -/
theorem qIC_mask {n : Nat} {s : Qs} (h : QI n s) {i : Nat} {x : Lq} (hi : i < s.ls.length) (hx : x.how = (s.ln i).how) (hm : x.pending = (s.ln i).pending) : qIC (s.put i x) = { qIC s with e := setB (qIC s).e i (!x.masked) } := by
  have hl := h.len
  have hle := (qN_le h).2.2
  refine (qIC_ext (put_len s i x) (put_prio hi hx) _ _ _ ?_ ?_ rfl).trans rfl
  · show mk _ = mk _
    refine mk_congr fun j hj => ?_
    rw [put_len, put_ln hi]
    by_cases hji : j = i
    · subst hji; rw [if_pos rfl, hm]
    · rw [if_neg hji]
  · show mk _ = setB (mk _) i (!x.masked)
    unfold setB
    refine mk_congr fun j hj => ?_
    have hN : qN (s.put i x) = qN s := by unfold qN; rw [put_len]
    rw [hN, put_ln hi, mk_bit]
    by_cases hji : j = i
    · subst hji
      rw [if_pos rfl, if_pos rfl, decide_eq_true (show j < qN s by omega), Bool.true_and]
    · rw [if_neg hji, if_neg hji, decide_eq_true hj, Bool.true_and]
/-- Nothing of the controller turns. -/
theorem qIC_same {n : Nat} {s : Qs} (h : QI n s) {i : Nat} {x : Lq} (hi : i < s.ls.length) (hx : x.how = (s.ln i).how) (hm : x.masked = (s.ln i).masked) (hp : x.pending = (s.ln i).pending) : qIC (s.put i x) = qIC s := by
  rw [qIC_pend h hi hx hm]
  have : setB (qIC s).p i x.pending = (qIC s).p := setB_same (mk_lt _) (by
    show (mk _).testBit i = _
    rw [mk_bit, decide_eq_true hi, hp, decide_eq_true (by have := h.len; omega)]; rfl)
  rw [this]
theorem g_bit {n : Nat} {s : Qs} (h : QI n s) {i : Nat} (hi : i < s.ls.length) : (qIC s).g.testBit i = true := by
  show (gB (qN s)).testBit i = true
  have := h.len
  have := (qN_le h).2.2
  rw [gB_bit, decide_eq_true (by omega), decide_eq_true (by omega)]; rfl
theorem p_bit {n : Nat} {s : Qs} (h : QI n s) {i : Nat} (hi : i < s.ls.length) : (qIC s).p.testBit i = (s.ln i).pending := by
  show (mk _).testBit i = _
  have := h.len
  rw [mk_bit, decide_eq_true (by omega), decide_eq_true hi]; rfl
/-- What intc.Raise comes to. -/
theorem q_raise {n : Nat} {s : Qs} (h : QI n s) {i : Nat} (hi : i < s.ls.length) : (qIC s).on i (qIC s).raiseF = if (s.ln i).pending = true then (qIC s, 4) else ({ qIC s with p := setB (qIC s).p i true }, 0) := by
  have hl : ((i : Int)) < ((qIC s).prio.length : Nat) := by
    show (i : Int) < ((qPrio s).length : Nat)
    rw [qPrio_len]; have := (qN_le h).2.2; omega
  rw [IC.on_in (qIC_ok h) hl]
  unfold IC.raiseF
  rw [if_pos (g_bit h hi), p_bit h hi]
theorem q_enable {n : Nat} {s : Qs} (h : QI n s) {i : Nat} (hi : i < s.ls.length) (on : Bool) : (qIC s).on i ((qIC s).enableF on) = ({ qIC s with e := setB (qIC s).e i on }, 0) := by
  have hl : ((i : Int)) < ((qIC s).prio.length : Nat) := by
    show (i : Int) < ((qPrio s).length : Nat)
    rw [qPrio_len]; have := (qN_le h).2.2; omega
  rw [IC.on_in (qIC_ok h) hl]
  rfl
theorem q_next {n : Nat} {s : Qs} (h : QI n s) : (qIC s).num (qIC s).nextF = if s.next = -1 then (0, 3) else (s.next, 0) := by
  rw [IC.num_ok (qIC_ok h)]
  unfold IC.nextF
  rw [best_q h]
  by_cases hn : s.next = -1
  · rw [if_pos hn, if_pos hn, if_pos rfl]
  · rw [if_neg hn, if_neg hn]
    rcases next_or s with h1 | ⟨i, h1, h2, _⟩
    · exact absurd h1 hn
    · have := h.len
      rw [if_neg (by omega)]
theorem q_ack {n : Nat} {s : Qs} (h : QI n s) {i : Nat} (hi : i < s.ls.length) (hn : s.next = (i : Int)) : (qIC s).three (qIC s).ackF = ({ qIC s with p := setB (qIC s).p i false, stack := (qIC s).stack ++ [(i : Int)] }, (i : Int), 0) := by
  rw [IC.three_ok (qIC_ok h)]
  have hb : (qIC s).best = (i : Int) := by rw [best_q h, hn, if_neg (by omega)]
  unfold IC.ackF
  have := h.len
  rw [hb, if_neg (by omega), Int.toNat_natCast]
theorem q_end {n : Nat} {s : Qs} (h : QI n s) (hb : s.bs.length ≠ 0) : (qIC s).three (qIC s).endF = ({ qIC s with stack := (qIC s).stack.dropLast }, (s.act.line : Int), 0) := by
  rw [IC.three_ok (qIC_ok h)]
  unfold IC.endF
  have hs : (qIC s).stack ≠ [] := fun h9 => hb (by
    have : (s.bs.map fun b => (b.line : Int)).length = 0 := by
      show (qIC s).stack.length = 0
      rw [h9]; rfl
    rwa [List.length_map] at this)
  have hlen : (qIC s).stack.length = s.bs.length := by show (s.bs.map _).length = _; rw [List.length_map]
  rw [if_neg hs, hlen]
  have hst : (qIC s).st (s.bs.length - 1) = (s.act.line : Int) := by
    rw [qIC_st (show s.bs.length - 1 < s.bs.length by omega)]
    unfold Qs.act
    rw [List.getD_eq_getElem?_getD, List.getElem?_eq_getElem (by omega)]; rfl
  have hr : (qIC s).r.testBit ((qIC s).st (s.bs.length - 1)).toNat = false := Nat.zero_testBit _
  rw [hr, hst]
  rfl
end Go.Proofs.YtpncbkodhojicaaDoor

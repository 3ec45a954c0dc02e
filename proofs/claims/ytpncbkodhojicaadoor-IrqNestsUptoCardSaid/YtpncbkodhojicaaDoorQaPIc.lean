/- Packages storm and irq: masks, and lines of interrupts, plain. No premise of its own. -/
import Derived.Test.YtpncbkodhojicaaDoorQaAIc
namespace Go.Proofs.YtpncbkodhojicaaDoor
open Go.RowKit Go.Shelf
/-- A line: how it is, where its mask and its ring lie, when its turns were taken, masked, pending, what it is to take, how many were lost and served. -/
structure Lq where
  how : Ln
  mb : Nat
  mg : Nat
  L : List Int
  masked : Bool
  pending : Bool
  top : Int
  bottom : Int
  lost : Int
  served : Int
/-- A line that is being served. -/
structure Bq where
  line : Nat
  left : Int
  bottom : Int
structure Qs where
  ls : List Lq
  bs : List Bq
  last : Int
def lq0 : Lq := ⟨⟨0, 0, 0, 0⟩, 0, 0, [], false, false, 0, 0, 0, 0⟩
def bq0 : Bq := ⟨0, 0, 0⟩
def backL (now window : Int) (L : List Int) : List Int := L.filter fun t => decide (now - window < t)
def Lq.look (x : Lq) (now : Int) : Lq := { x with L := backL now x.how.window x.L }
def Lq.full (x : Lq) : Bool := decide (x.how.many ≤ x.L.length)
def Lq.enter (x : Lq) (now : Int) : Lq := if (x.look now).full = true then x.look now else { x.look now with L := (x.look now).L ++ [now] }
def Qs.ln (s : Qs) (i : Nat) : Lq := s.ls.getD i lq0
def Qs.pr (s : Qs) (i : Nat) : Int := (s.ln i).how.prio
/-- The last line that is being served. -/
def Qs.act (s : Qs) : Bq := s.bs.getD (s.bs.length - 1) bq0
def Qs.most (s : Qs) : Int := if s.bs.length = 0 then 0 else s.pr s.act.line
def Qs.begun (s : Qs) (i : Nat) : Bool := s.bs.any fun b => decide (b.line = i)
def Qs.may (s : Qs) (i : Nat) : Bool := (s.ln i).pending && !(s.ln i).masked && !s.begun i
def pickQ (s : Qs) : Nat → Int × Int
  | 0 => (-1, s.most)
  | k + 1 => if s.may k = true ∧ (pickQ s k).2 < s.pr k then ((k : Int), s.pr k) else pickQ s k
def Qs.next (s : Qs) : Int := (pickQ s s.ls.length).1
/-- A line put in the place of another. -/
def Qs.put (s : Qs) (n : Nat) (x : Lq) : Qs := { s with ls := s.ls.set n x }
def raiseC (s : Qs) (line top bottom : Int) : Int :=
  if 0 ≤ line ∧ line < s.ls.length ∧ 1 ≤ top ∧ top ≤ 1099511627776 ∧ 0 ≤ bottom ∧ bottom ≤ 1099511627776 then (if (s.ln line.toNat).pending = true then 4 else 0) else 1
def raiseS (s : Qs) (line top bottom : Int) : Qs :=
  if raiseC s line top bottom = 4 then s.put line.toNat { s.ln line.toNat with lost := (s.ln line.toNat).lost + 1 }
  else if raiseC s line top bottom = 0 then s.put line.toNat { s.ln line.toNat with pending := true, top := top, bottom := bottom }
  else s
/-- What taking comes to: the lines, which, and whether one was begun. -/
def takeS (now : Int) : Nat → Qs → Qs × Int × Bool
  | 0, s => (s, 0, false)
  | f + 1, s =>
    if s.next < 0 then (s, 0, false)
    else if ((s.ln s.next.toNat).look now).full = true then takeS now f (s.put s.next.toNat { (s.ln s.next.toNat).look now with masked := true })
    else ({ s.put s.next.toNat { (s.ln s.next.toNat).enter now with pending := false, served := (s.ln s.next.toNat).served + 1 } with bs := s.bs ++ [⟨s.next.toNat, (s.ln s.next.toNat).top, (s.ln s.next.toNat).bottom⟩] }, s.next, true)
def timeC (s : Qs) (now : Int) : Bool := decide (0 ≤ now ∧ now ≤ 4503599627370496 ∧ s.last ≤ now)
def Qs.at' (s : Qs) (now : Int) : Qs := { s with last := now }
def unmaskL (now : Int) (x : Lq) : Lq := if x.masked = true then (if (x.look now).full = true then x.look now else { x.look now with masked := false }) else x
def unmaskS (s : Qs) (now : Int) : Qs := { s with ls := s.ls.map (unmaskL now), last := now }
/-- Which of the first so many lines are masked no more. -/
def freed (s : Qs) (now : Int) (k : Nat) : List Nat := (List.range k).filter fun i => (s.ln i).masked && !((s.ln i).look now).full
def nextM (s : Qs) : Nat → Int × Bool
  | 0 => (0, false)
  | k + 1 => if (s.ln k).masked = true ∧ (s.ln k).L ≠ [] ∧ ((nextM s k).2 = false ∨ (s.ln k).L.getD 0 0 + (s.ln k).how.window < (nextM s k).1) then ((s.ln k).L.getD 0 0 + (s.ln k).how.window, true) else nextM s k
def leftS (s : Qs) : Int := if s.bs.length = 0 then 0 else s.act.left
def runC (s : Qs) (n : Int) : Int := if s.bs.length = 0 then 7 else if n < 0 ∨ s.act.left < n then 1 else 0
def runS (s : Qs) (n : Int) : Qs :=
  if runC s n ≠ 0 then s
  else if s.act.left - n = 0 then { s with bs := s.bs.take (s.bs.length - 1) }
  else { s with bs := s.bs.set (s.bs.length - 1) { s.act with left := s.act.left - n } }
def runD (s : Qs) (n : Int) : Bool := decide (runC s n = 0) && decide (s.act.left - n = 0)
/-- What holds of lines behind so many calls. -/
structure LqI (last : Int) (n : Nat) (x : Lq) : Prop where
  prio : 1 ≤ x.how.prio ∧ x.how.prio ≤ 15
  many : 1 ≤ x.how.many ∧ x.how.many ≤ 64
  window : 1 ≤ x.how.window ∧ x.how.window ≤ 1099511627776
  len : (x.L.length : Int) ≤ x.how.many
  sort : x.L.Pairwise (· ≤ ·)
  range : ∀ t ∈ x.L, 0 ≤ t ∧ t ≤ last
  lost : 0 ≤ x.lost ∧ x.lost ≤ n
  served : 0 ≤ x.served ∧ x.served ≤ n
  top : 0 ≤ x.top ∧ x.top ≤ 1099511627776
  bottom : 0 ≤ x.bottom ∧ x.bottom ≤ 1099511627776
structure QI (n : Nat) (s : Qs) : Prop where
  last : 0 ≤ s.last ∧ s.last ≤ 4503599627370496
  len : s.ls.length ≤ 64
  lines : ∀ x ∈ s.ls, LqI s.last n x
  bline : ∀ b ∈ s.bs, b.line < s.ls.length
  bleft : ∀ b ∈ s.bs, 0 ≤ b.left ∧ b.left ≤ 1099511627776
  bsort : (s.bs.map fun b => s.pr b.line).Pairwise (· < ·)
theorem ln_get {s : Qs} {i : Nat} (h : i < s.ls.length) : s.ln i = s.ls[i] := by unfold Qs.ln; rw [List.getD_eq_getElem?_getD, List.getElem?_eq_getElem h]; rfl
theorem ln_mem {s : Qs} {i : Nat} (h : i < s.ls.length) : s.ln i ∈ s.ls := by rw [ln_get h]; exact List.getElem_mem h
theorem ln_out {s : Qs} {i : Nat} (h : ¬ i < s.ls.length) : s.ln i = lq0 := by unfold Qs.ln; rw [List.getD_eq_getElem?_getD, List.getElem?_eq_none (by omega)]; rfl
theorem put_len (s : Qs) (n : Nat) (x : Lq) : (s.put n x).ls.length = s.ls.length := List.length_set
theorem put_ln {s : Qs} {n : Nat} {x : Lq} (hn : n < s.ls.length) (i : Nat) : (s.put n x).ln i = if i = n then x else s.ln i := by
  unfold Qs.put Qs.ln
  dsimp only
  rw [List.getD_eq_getElem?_getD, List.getElem?_set]
  by_cases hi : n = i
  · subst hi
    rw [if_pos rfl, if_pos hn, if_pos rfl]; rfl
  · rw [if_neg hi, if_neg (fun h => hi h.symm), List.getD_eq_getElem?_getD]
theorem put_pr {s : Qs} {n : Nat} {x : Lq} (hn : n < s.ls.length) (hx : x.how = (s.ln n).how) (i : Nat) : (s.put n x).pr i = s.pr i := by
  unfold Qs.pr
  rw [put_ln hn]
  split
  · rename_i h; rw [h, hx]
  · rfl
theorem pick_or (s : Qs) : ∀ k, (pickQ s k).1 = -1 ∧ (pickQ s k).2 = s.most ∨ ∃ i, i < k ∧ (pickQ s k).1 = (i : Int) ∧ (pickQ s k).2 = s.pr i ∧ s.may i = true ∧ s.most < s.pr i
  | 0 => .inl ⟨rfl, rfl⟩
  | k + 1 => by
    rw [pickQ]
    by_cases h : s.may k = true ∧ (pickQ s k).2 < s.pr k
    · rw [if_pos h]
      refine .inr ⟨k, by omega, rfl, rfl, h.1, ?_⟩
      rcases pick_or s k with h1 | ⟨i, h1, h2, h3, h4, h5⟩
      · rw [← h1.2]; exact h.2
      · have := h.2; rw [h3] at this; exact Int.lt_trans h5 this
    · rw [if_neg h]
      rcases pick_or s k with h1 | ⟨i, h1, h2⟩
      · exact .inl h1
      · exact .inr ⟨i, by omega, h2⟩
theorem next_or (s : Qs) : s.next = -1 ∨ ∃ i, i < s.ls.length ∧ s.next = (i : Int) ∧ s.may i = true ∧ s.most < s.pr i := by
  rcases pick_or s s.ls.length with h | ⟨i, h1, h2, h3, h4, h5⟩
  · exact .inl h.1
  · exact .inr ⟨i, h1, h2, h4, h5⟩
/-- How many are not masked. -/
def Qs.open' (s : Qs) : Nat := s.ls.countP fun x => !x.masked
theorem count_set {p : Lq → Bool} (l : List Lq) : ∀ (n : Nat) (x : Lq) (h : n < l.length), p l[n] = true → p x = false → (l.set n x).countP p + 1 = l.countP p := by
  induction l with
  | nil => intro n x h; exact absurd h (Nat.not_lt_zero _)
  | cons y l ih =>
    intro n x h h1 h2
    cases n with
    | zero =>
      have h1 : p y = true := h1
      rw [List.set_cons_zero, List.countP_cons, List.countP_cons, h1, h2]
      simp
    | succ n =>
      have h3 := ih n x (Nat.lt_of_succ_lt_succ h) h1 h2
      rw [List.set_cons_succ, List.countP_cons, List.countP_cons]
      omega
theorem open_put {s : Qs} {n : Nat} {x : Lq} (hn : n < s.ls.length) (h : (s.ln n).masked = false) (hx : x.masked = true) : (s.put n x).open' + 1 = s.open' :=
  count_set s.ls n x hn (by rw [← ln_get hn, h]; rfl) (by rw [hx]; rfl)
theorem backL_len (now window : Int) (L : List Int) : (backL now window L).length ≤ L.length := List.length_filter_le _ _
/-- Where turns come back at their times: the first so many. -/
theorem back_drop {now window : Int} : ∀ {L : List Int} {x : Int}, (x :: L).Pairwise (· ≤ ·) → x + window ≤ now → backL now window (x :: L) = backL now window L
  | L, x, _, h => by
    unfold backL
    rw [List.filter_cons_of_neg (by simp; omega)]
theorem back_stay {now window : Int} {L : List Int} {x : Int} (hs : (x :: L).Pairwise (· ≤ ·)) (h : now < x + window) : backL now window (x :: L) = x :: L := by
  unfold backL
  rw [List.filter_eq_self]
  intro t ht
  rcases List.mem_cons.1 ht with rfl | ht
  · simp; omega
  · have := (List.pairwise_cons.1 hs).1 t ht
    simp; omega
theorem back_drops {now window : Int} {L : List Int} (hs : L.Pairwise (· ≤ ·)) (k : Nat) (hk : ∀ i, i < k → ∀ t, L[i]? = some t → t + window ≤ now) : backL now window L = backL now window (L.drop k) := by
  induction k generalizing L with
  | zero => rfl
  | succ k ih =>
    cases L with
    | nil => rfl
    | cons x L =>
      rw [back_drop hs (hk 0 (by omega) x rfl), List.drop_succ_cons]
      exact ih (List.pairwise_cons.1 hs).2 fun i hi t ht => hk (i + 1) (by omega) t ht
theorem LqI.up {last last' : Int} {n n' : Nat} {x : Lq} (h : LqI last n x) (hl : last ≤ last') (hn : n ≤ n') : LqI last' n' x :=
  ⟨h.prio, h.many, h.window, h.len, h.sort, fun t ht => ⟨(h.range t ht).1, Int.le_trans (h.range t ht).2 hl⟩, ⟨h.lost.1, by have := h.lost.2; omega⟩, ⟨h.served.1, by have := h.served.2; omega⟩, h.top, h.bottom⟩
theorem LqI.look {last : Int} {n : Nat} {x : Lq} (h : LqI last n x) (now : Int) : LqI last n (x.look now) :=
  ⟨h.prio, h.many, h.window, by have := h.len; have := backL_len now x.how.window x.L; show ((backL now x.how.window x.L).length : Int) ≤ x.how.many; omega, h.sort.filter _, fun t ht => h.range t (List.mem_filter.1 ht).1, h.lost, h.served, h.top, h.bottom⟩
theorem LqI.enter {last : Int} {n : Nat} {x : Lq} (h : LqI last n x) (h0 : 0 ≤ last) : LqI last n (x.enter last) := by
  unfold Lq.enter
  have hk := h.look last
  by_cases hf : (x.look last).full = true
  · rw [if_pos hf]; exact hk
  · rw [if_neg hf]
    have hlt : ((x.look last).L.length : Int) < x.how.many := by
      unfold Lq.full at hf
      have : ¬ (x.look last).how.many ≤ ((x.look last).L.length : Int) := by simpa using hf
      show _ < (x.look last).how.many
      omega
    refine ⟨hk.prio, hk.many, hk.window, ?_, ?_, ?_, hk.lost, hk.served, hk.top, hk.bottom⟩
    · show (((x.look last).L ++ [last]).length : Int) ≤ x.how.many
      rw [List.length_append]; simp; omega
    · show ((x.look last).L ++ [last]).Pairwise (· ≤ ·)
      rw [List.pairwise_append]
      exact ⟨hk.sort, List.pairwise_singleton _ _, fun a ha b hb => by obtain rfl := List.mem_singleton.1 hb; exact (hk.range a ha).2⟩
    · intro t ht
      rcases List.mem_append.1 ht with ht | ht
      · exact hk.range t ht
      · obtain rfl := List.mem_singleton.1 ht
        exact ⟨h0, Int.le_refl _⟩
theorem QI.up {n n' : Nat} {s : Qs} (h : QI n s) (hn : n ≤ n') : QI n' s := ⟨h.last, h.len, fun x hx => (h.lines x hx).up (Int.le_refl _) hn, h.bline, h.bleft, h.bsort⟩
theorem QI.at {n : Nat} {s : Qs} (h : QI n s) {now : Int} (ht : timeC s now = true) : QI n (s.at' now) := by
  have ht : 0 ≤ now ∧ now ≤ 4503599627370496 ∧ s.last ≤ now := by simpa [timeC] using ht
  exact ⟨⟨ht.1, ht.2.1⟩, h.len, fun x hx => (h.lines x hx).up ht.2.2 (Nat.le_refl _), h.bline, h.bleft, h.bsort⟩
theorem QI.line {n : Nat} {s : Qs} (h : QI n s) {i : Nat} (hi : i < s.ls.length) : LqI s.last n (s.ln i) := h.lines _ (ln_mem hi)
theorem QI.put {n : Nat} {s : Qs} (h : QI n s) {i : Nat} {x : Lq} (hi : i < s.ls.length) (hx : LqI s.last n x) (hh : x.how = (s.ln i).how) : QI n (s.put i x) where
  last := h.last
  len := by rw [put_len]; exact h.len
  lines y hy := by
    rcases List.mem_or_eq_of_mem_set hy with hy | rfl
    · exact h.lines y hy
    · exact hx
  bline b hb := by rw [put_len]; exact h.bline b hb
  bleft := h.bleft
  bsort := by
    have e : (s.put i x).bs.map (fun b => (s.put i x).pr b.line) = s.bs.map fun b => s.pr b.line := List.map_congr_left fun b _ => put_pr hi hh b.line
    rw [e]; exact h.bsort
theorem QI.raise {n : Nat} {s : Qs} (h : QI n s) (line top bottom : Int) : QI (n + 1) (raiseS s line top bottom) := by
  unfold raiseS
  by_cases hc : raiseC s line top bottom = 4 ∨ raiseC s line top bottom = 0
  · have hr : 0 ≤ line ∧ line < s.ls.length ∧ 1 ≤ top ∧ top ≤ 1099511627776 ∧ 0 ≤ bottom ∧ bottom ≤ 1099511627776 := by
      unfold raiseC at hc
      by_cases hr : 0 ≤ line ∧ line < s.ls.length ∧ 1 ≤ top ∧ top ≤ 1099511627776 ∧ 0 ≤ bottom ∧ bottom ≤ 1099511627776
      · exact hr
      · rw [if_neg hr] at hc; omega
    have hi : line.toNat < s.ls.length := by omega
    have g := (h.up (Nat.le_succ n)).line hi
    have g0 := h.line hi
    by_cases h4 : raiseC s line top bottom = 4
    · rw [if_pos h4]
      exact (h.up (Nat.le_succ n)).put hi ⟨g.prio, g.many, g.window, g.len, g.sort, g.range, ⟨by have := g0.lost.1; show 0 ≤ (s.ln line.toNat).lost + 1; omega, by have := g0.lost.2; show (s.ln line.toNat).lost + 1 ≤ ((n + 1 : Nat) : Int); omega⟩, g.served, g.top, g.bottom⟩ rfl
    · rw [if_neg h4, if_pos (hc.resolve_left h4)]
      exact (h.up (Nat.le_succ n)).put hi ⟨g.prio, g.many, g.window, g.len, g.sort, g.range, g.lost, g.served, ⟨by show 0 ≤ top; omega, hr.2.2.2.1⟩, ⟨hr.2.2.2.2.1, hr.2.2.2.2.2⟩⟩ rfl
  · rw [if_neg (fun h4 => hc (.inl h4)), if_neg (fun h0 => hc (.inr h0))]
    exact h.up (Nat.le_succ n)
theorem act_mem {s : Qs} (h : s.bs.length ≠ 0) : s.act ∈ s.bs := by
  unfold Qs.act
  rw [List.getD_eq_getElem?_getD, List.getElem?_eq_getElem (by omega)]
  exact List.getElem_mem _
theorem QI.masks {n : Nat} {s : Qs} (h : QI n s) {i : Nat} (hi : i < s.ls.length) : QI n (s.put i { (s.ln i).look s.last with masked := true }) :=
  h.put hi (by have g := (h.line hi).look s.last; exact ⟨g.prio, g.many, g.window, g.len, g.sort, g.range, g.lost, g.served, g.top, g.bottom⟩) rfl
theorem QI.takes {n : Nat} {s : Qs} (h : QI n s) {i : Nat} (hi : i < s.ls.length) (hm : s.most < s.pr i) : QI (n + 1) { s.put i { (s.ln i).enter s.last with pending := false, served := (s.ln i).served + 1 } with bs := s.bs ++ [⟨i, (s.ln i).top, (s.ln i).bottom⟩] } := by
  have g0 := h.line hi
  have he : ((s.ln i).enter s.last).how = (s.ln i).how := by unfold Lq.enter; split <;> rfl
  have hl : ((s.ln i).enter s.last).lost = (s.ln i).lost := by unfold Lq.enter; split <;> rfl
  have g := ((h.up (Nat.le_succ n)).line hi).enter h.last.1
  have h1 : QI (n + 1) (s.put i { (s.ln i).enter s.last with pending := false, served := (s.ln i).served + 1 }) := (h.up (Nat.le_succ n)).put hi ⟨g.prio, g.many, g.window, g.len, g.sort, g.range, g.lost, ⟨by have := g0.served.1; show 0 ≤ (s.ln i).served + 1; omega, by have := g0.served.2; show (s.ln i).served + 1 ≤ ((n + 1 : Nat) : Int); omega⟩, g.top, g.bottom⟩ he
  refine ⟨h1.last, h1.len, h1.lines, fun b hb => ?_, fun b hb => ?_, ?_⟩
  · rcases List.mem_append.1 hb with hb | hb
    · exact h1.bline b hb
    · obtain rfl := List.mem_singleton.1 hb
      show i < (s.ls.set i _).length
      rw [List.length_set]; exact hi
  · rcases List.mem_append.1 hb with hb | hb
    · exact h1.bleft b hb
    · obtain rfl := List.mem_singleton.1 hb
      exact g0.top
  · have e : ∀ j, Qs.pr { s.put i { (s.ln i).enter s.last with pending := false, served := (s.ln i).served + 1 } with bs := s.bs ++ [⟨i, (s.ln i).top, (s.ln i).bottom⟩] } j = s.pr j := fun j => put_pr (x := { (s.ln i).enter s.last with pending := false, served := (s.ln i).served + 1 }) hi he j
    rw [List.map_congr_left fun b _ => e b.line]
    show ((s.bs ++ [(⟨i, (s.ln i).top, (s.ln i).bottom⟩ : Bq)]).map fun b : Bq => s.pr b.line).Pairwise (· < ·)
    rw [List.map_append, List.pairwise_append]
    refine ⟨h.bsort, List.pairwise_singleton _ _, fun a ha b hb => ?_⟩
    obtain rfl := List.mem_singleton.1 hb
    show a < s.pr i
    refine Int.lt_of_le_of_lt ?_ hm
    have hne : s.bs.length ≠ 0 := fun h0 => by rw [List.eq_nil_of_length_eq_zero h0] at ha; cases ha
    unfold Qs.most
    rw [if_neg hne]
    obtain ⟨j, hj, rfl⟩ := List.getElem_of_mem ha
    rw [List.length_map] at hj
    have hact : s.act = s.bs[s.bs.length - 1]'(by omega) := by
      unfold Qs.act
      rw [List.getD_eq_getElem?_getD, List.getElem?_eq_getElem (by omega)]; rfl
    rw [hact, List.getElem_map]
    by_cases hj1 : j = s.bs.length - 1
    · subst hj1; exact Int.le_refl _
    · have := (List.pairwise_iff_getElem.1 h.bsort) j (s.bs.length - 1) (by simpa using hj) (by simp; omega) (by omega)
      rw [List.getElem_map, List.getElem_map] at this
      exact Int.le_of_lt this
theorem QI.take {n : Nat} : ∀ (f : Nat) {s : Qs}, QI n s → QI (n + 1) (takeS s.last f s).1 ∧ (takeS s.last f s).1.last = s.last
  | 0, s, h => ⟨h.up (Nat.le_succ n), rfl⟩
  | f + 1, s, h => by
    rw [takeS]
    by_cases hn : s.next < 0
    · rw [if_pos hn]; exact ⟨h.up (Nat.le_succ n), rfl⟩
    · rw [if_neg hn]
      obtain ⟨i, hi, hni, hm, hp⟩ := (next_or s).resolve_left (by omega)
      rw [hni, Int.toNat_natCast]
      by_cases hf : ((s.ln i).look s.last).full = true
      · rw [if_pos hf]
        exact QI.take f (h.masks hi)
      · rw [if_neg hf]
        exact ⟨h.takes hi hp, rfl⟩
theorem QI.unmask {n : Nat} {s : Qs} (h : QI n s) {now : Int} (ht : timeC s now = true) : QI n (unmaskS s now) := by
  have hs := h.at ht
  have ht : 0 ≤ now ∧ now ≤ 4503599627370496 ∧ s.last ≤ now := by simpa [timeC] using ht
  have hw : ∀ x, (unmaskL now x).how = x.how := fun x => by unfold unmaskL; split; · split <;> rfl
                                                            · rfl
  refine ⟨⟨ht.1, ht.2.1⟩, by show (s.ls.map _).length ≤ 64; rw [List.length_map]; exact h.len, fun x hx => ?_, fun b hb => by show b.line < (s.ls.map _).length; rw [List.length_map]; exact h.bline b hb, h.bleft, ?_⟩
  · obtain ⟨y, hy, rfl⟩ := List.mem_map.1 hx
    have g : LqI now n y := hs.lines y hy
    have g2 := g.look now
    unfold unmaskL
    split
    · split
      · exact g2
      · exact ⟨g2.prio, g2.many, g2.window, g2.len, g2.sort, g2.range, g2.lost, g2.served, g2.top, g2.bottom⟩
    · exact g
  · have e : ∀ j, (unmaskS s now).pr j = s.pr j := fun j => by
      unfold Qs.pr Qs.ln unmaskS
      dsimp only
      rw [List.getD_eq_getElem?_getD, List.getD_eq_getElem?_getD, List.getElem?_map]
      cases s.ls[j]? with
      | none => rfl
      | some x => exact congrArg Ln.prio (hw x)
    rw [List.map_congr_left fun b _ => e b.line]
    exact h.bsort
theorem QI.run {n : Nat} {s : Qs} (h : QI n s) (k : Int) : QI n (runS s k) := by
  unfold runS
  by_cases hc : runC s k ≠ 0
  · rw [if_pos hc]; exact h
  · rw [if_neg hc]
    have hne : s.bs.length ≠ 0 := fun h0 => hc (by unfold runC; rw [if_pos h0]; decide)
    have hr : ¬ (k < 0 ∨ s.act.left < k) := fun h9 => hc (by unfold runC; rw [if_neg hne, if_pos h9]; decide)
    by_cases hz : s.act.left - k = 0
    · rw [if_pos hz]
      exact ⟨h.last, h.len, h.lines, fun b hb => h.bline b (List.mem_of_mem_take hb), fun b hb => h.bleft b (List.mem_of_mem_take hb), by
        show ((s.bs.take _).map fun b => s.pr b.line).Pairwise (· < ·)
        rw [List.map_take]; exact h.bsort.sublist (List.take_sublist _ _)⟩
    · rw [if_neg hz]
      have hb0 := h.bleft _ (act_mem hne)
      refine ⟨h.last, h.len, h.lines, fun b hb => ?_, fun b hb => ?_, ?_⟩
      · rcases List.mem_or_eq_of_mem_set hb with hb | rfl
        · exact h.bline b hb
        · show s.act.line < s.ls.length
          exact h.bline _ (act_mem hne)
      · rcases List.mem_or_eq_of_mem_set hb with hb | rfl
        · exact h.bleft b hb
        · show 0 ≤ s.act.left - k ∧ s.act.left - k ≤ 1099511627776
          omega
      · have e : (s.bs.set (s.bs.length - 1) { s.act with left := s.act.left - k }).map (fun b => s.pr b.line) = s.bs.map fun b => s.pr b.line := by
          rw [List.map_set]
          refine List.ext_getElem? fun j => ?_
          rw [List.getElem?_set]
          split
          · rename_i hj
            subst hj
            have hact : s.act = s.bs[s.bs.length - 1]'(by omega) := by
              unfold Qs.act
              rw [List.getD_eq_getElem?_getD, List.getElem?_eq_getElem (by omega)]; rfl
            rw [List.length_map, if_pos (by omega), List.getElem?_map, List.getElem?_eq_getElem (by omega), hact]; rfl
          · rfl
        show ((s.bs.set (s.bs.length - 1) { s.act with left := s.act.left - k }).map fun b => s.pr b.line).Pairwise (· < ·)
        rw [e]; exact h.bsort
end Go.Proofs.YtpncbkodhojicaaDoor

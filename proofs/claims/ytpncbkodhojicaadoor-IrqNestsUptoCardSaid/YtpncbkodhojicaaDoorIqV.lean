/- Package vet: within, and a task. Conditions: none (a task's numbers are as they read). -/
import Derived.Test.YtpncbkodhojicaaDoorKit
namespace Go.Proofs.YtpncbkodhojicaaDoor
open Go.RowKit

/-- A task's data. -/
structure Tk where
  kind : Int
  prio : Int
  period : Int
  offset : Int
  deadline : Int
  cost : Int
  room : Int
  lock : Int
  lo : Int
  hi : Int
def tkv (t : Tk) : Value := .agg #[.int .u8 t.kind, .int .i64 t.prio, .int .i64 t.period, .int .i64 t.offset, .int .i64 t.deadline, .int .i64 t.cost, .int .i64 t.room, .int .i64 t.lock, .int .i64 t.lo, .int .i64 t.hi]
/-- Whether a number is from one to another one. -/
def inB (n lo hi : Int) : Bool := decide (lo ≤ n ∧ n ≤ hi)
theorem inB_true {n lo hi : Int} : inB n lo hi = true ↔ lo ≤ n ∧ n ≤ hi := by unfold inB; exact decide_eq_true_iff
theorem inB_false {n lo hi : Int} : inB n lo hi = false ↔ ¬ (lo ≤ n ∧ n ≤ hi) := by unfold inB; exact decide_eq_false_iff_not
/-- Why a task is not right. -/
def tkWhy (t : Tk) (ch : Int) : Int :=
  if t.kind ≠ 1 ∧ t.kind ≠ 2 then 2
  else if inB t.prio 0 63 = false ∨ inB t.room 1 16 = false ∨ 16 ≤ t.lock then 1
  else if inB t.period 1 1099511627776 = false ∨ inB t.offset 0 1099511627776 = false ∨ inB t.deadline 1 1099511627776 = false then 1
  else if t.kind = 2 ∧ 0 < t.offset then 1
  else if t.period < t.deadline then 11
  else if inB t.cost 1 t.deadline = false ∨ t.deadline - t.cost < ch then 14
  else if 0 ≤ t.lock ∧ (t.lo < 0 ∨ t.hi ≤ t.lo ∨ t.cost < t.hi) then 14
  else 0
end Go.Proofs.YtpncbkodhojicaaDoor
/- What is wrong with a configuration, as data: all things that are looked at, each with its error. No program in sight. -/
namespace Go.Proofs.YtpncbkodhojicaaDoor
open Go.RowKit

/-- A line's data. -/
structure Ln where
  prio : Int
  top : Int
  many : Int
  window : Int
def lnv (x : Ln) : Value := .agg #[.int .i64 x.prio, .int .i64 x.top, .int .i64 x.many, .int .i64 x.window]
/-- A thread's data. -/
structure Th where
  prio : Int
  budget : Int
  period : Int
  depth : Int
def thv (x : Th) : Value := .agg #[.int .i64 x.prio, .int .i64 x.budget, .int .i64 x.period, .int .i64 x.depth]
/-- A configuration's data. -/
structure Cf where
  mn : Int
  mx : Int
  sw : Int
  ts : List Tk
  ls : List Ln
  hs : List Th

def tkc (t : Tk) : List Value := [.int .u8 t.kind, .int .i64 t.prio, .int .i64 t.period, .int .i64 t.offset, .int .i64 t.deadline, .int .i64 t.cost, .int .i64 t.room, .int .i64 t.lock, .int .i64 t.lo, .int .i64 t.hi]
def lnc (x : Ln) : List Value := [.int .i64 x.prio, .int .i64 x.top, .int .i64 x.many, .int .i64 x.window]
def thc (x : Th) : List Value := [.int .i64 x.prio, .int .i64 x.budget, .int .i64 x.period, .int .i64 x.depth]

/-- Why a timing is not right. -/
def tmWhy (mn mx : Int) : Int := if mn < 1 ∨ 2147483648 ≤ mx ∨ mx < 2 * mn then 2 else 0
/-- Why what a switch takes is not right. -/
def chWhy (sw : Int) : Int := if inB sw 0 1099511627776 then 0 else 1
/-- Why there are not as many as there may be. -/
def mnWhy (nt nl nh : Nat) : Int := if 1 ≤ nt ∧ nt ≤ 32 ∧ nl ≤ 64 ∧ nh = nl then 0 else 1
/-- Whether a line may be made. -/
def lnOk (x : Ln) : Bool := decide (1 ≤ x.many ∧ x.many ≤ 64) && decide (1 ≤ x.window ∧ x.window ≤ 1099511627776) && decide (1 ≤ x.top ∧ x.top ≤ 1099511627776) && decide (1 ≤ x.prio ∧ x.prio ≤ 15)
def lnWhy (x : Ln) : Int := if lnOk x then (if 1099511627776 < x.many * x.top then 10 else 0) else 1
/-- Whether a thread may be made. -/
def thOk (x : Th) : Bool := decide (1 ≤ x.budget ∧ x.budget ≤ x.period ∧ x.period ≤ 1099511627776) && decide (0 ≤ x.prio ∧ x.prio ≤ 63) && decide (1 ≤ x.depth ∧ x.depth ≤ 64)
def thWhy (x : Th) : Int := if thOk x then 0 else 1
/-- The priorities: whether each is there already. -/
def prWhys : List Int → List Int → List Int
  | _, [] => []
  | seen, p :: l => (if p ∈ seen then 12 else 0) :: prWhys (p :: seen) l

/-- A thing that is looked at: its part, its place, its error. -/
structure Fl where
  part : Int
  idx : Nat
  why : Int
def flv (f : Fl) : Value := .agg #[.int .u8 f.part, .int .i64 f.idx, .int .i64 f.why]
def flc (f : Fl) : List Value := [.int .u8 f.part, .int .i64 f.idx, .int .i64 f.why]
def numb (p : Int) : Nat → List Int → List Fl
  | _, [] => []
  | i, y :: l => ⟨p, i, y⟩ :: numb p (i + 1) l
theorem numb_append (p : Int) : ∀ (i : Nat) (a b : List Int), numb p i (a ++ b) = numb p i a ++ numb p (i + a.length) b
  | i, [], b => by simp [numb]
  | i, y :: a, b => by simp [numb, numb_append p (i + 1) a b, Nat.add_assoc, Nat.add_comm 1]
theorem numb_length (p : Int) : ∀ (i : Nat) (a : List Int), (numb p i a).length = a.length
  | i, [] => rfl
  | i, y :: a => by simp [numb, numb_length p (i + 1) a]
theorem prWhys_append : ∀ (s a b : List Int), prWhys s (a ++ b) = prWhys s a ++ prWhys (a.reverse ++ s) b
  | s, [], b => by simp [prWhys]
  | s, y :: a, b => by simp [prWhys, prWhys_append (y :: s) a b]
theorem prWhys_length : ∀ (s a : List Int), (prWhys s a).length = a.length
  | s, [] => rfl
  | s, y :: a => by simp [prWhys, prWhys_length (y :: s) a]

def Cf.prios (c : Cf) : List Int := c.ts.map (·.prio) ++ c.hs.map (·.prio)
def Cf.heads (c : Cf) : List Fl := [⟨1, 0, tmWhy c.mn c.mx⟩, ⟨2, 0, chWhy c.sw⟩, ⟨3, 0, mnWhy c.ts.length c.ls.length c.hs.length⟩]
/-- All things that are looked at. -/
def Cf.looks (c : Cf) : List Fl :=
  c.heads ++ (numb 4 0 (c.ts.map fun t => tkWhy t c.sw) ++ (numb 5 0 (c.ls.map lnWhy) ++ (numb 6 0 (c.hs.map thWhy) ++ numb 7 0 (prWhys [] c.prios))))
/-- All faults. -/
def Cf.faults (c : Cf) : List Fl := c.looks.filter fun f => decide (f.why ≠ 0)
/-- The first one. -/
def firstOf : List Fl → Fl × Bool
  | [] => (⟨0, 0, 0⟩, false)
  | f :: l => if f.why ≠ 0 then (f, true) else firstOf l
def Cf.why (c : Cf) : Int := (firstOf c.looks).1.why

theorem firstOf_cons (f : Fl) (l : List Fl) : firstOf (f :: l) = if f.why ≠ 0 then (f, true) else firstOf l := rfl
theorem firstOf_skip {a : List Fl} (h : ∀ f ∈ a, f.why = 0) (b : List Fl) : firstOf (a ++ b) = firstOf b := by
  induction a with
  | nil => rfl
  | cons f a ih =>
    have h0 : f.why = 0 := h f (by simp)
    rw [List.cons_append, firstOf_cons, if_neg (by omega)]
    exact ih (fun g hg => h g (by simp [hg]))
theorem firstOf_hit {f : Fl} (h : f.why ≠ 0) (b : List Fl) : firstOf (f :: b) = (f, true) := by
  rw [firstOf_cons, if_pos h]
theorem firstOf_filter : ∀ l : List Fl, firstOf (l.filter fun f => decide (f.why ≠ 0)) = firstOf l
  | [] => rfl
  | f :: l => by
    by_cases h : f.why = 0
    · rw [List.filter_cons_of_neg (by simp [h]), firstOf_filter l, firstOf_cons, if_neg (by omega)]
    · rw [List.filter_cons_of_pos (by simp [h]), firstOf_hit h, firstOf_hit h]
theorem why_faults (c : Cf) : c.why = (firstOf c.faults).1.why := by unfold Cf.why Cf.faults; rw [firstOf_filter]

/-- The cells of a row of structs. -/
theorem flatMap_get {α : Type} {f : α → List Value} {k : Nat} (hk : ∀ x, (f x).length = k) (d : α) : ∀ (l : List α) (i : Nat), i < l.length → ∀ j, j < k → (l.flatMap f)[i * k + j]? = (f (l.getD i d))[j]?
  | [], i, h, _, _ => by simp at h
  | x :: l, 0, _, j, hj => by
    rw [List.flatMap_cons, Nat.zero_mul, Nat.zero_add, List.getElem?_append_left (by rw [hk]; exact hj)]
    rfl
  | x :: l, i + 1, h, j, hj => by
    have ih := flatMap_get hk d l i (by simpa using h) j hj
    rw [List.flatMap_cons, List.getElem?_append_right (by rw [hk, Nat.add_mul]; omega), hk, show (i + 1) * k + j - k = i * k + j by rw [Nat.add_mul]; omega, ih]
    rfl
end Go.Proofs.YtpncbkodhojicaaDoor
/- Rows of structs: append of one struct onto a row of the call's own, cells of a row of structs. No premise of its own. -/
namespace Go.Proofs.YtpncbkodhojicaaDoor
open Go.RowKit

/-- 't' is a slice type whose elements 'e' take k cells. -/
structure SlK (P : Program) (t e : TypeId) (k : Nat) (bytes : Nat) : Prop where
  ht : P.underlying t = some (.slice e)
  hi : ∃ i z, P.info? e = some i ∧ i.zero = some z ∧ i.size = k ∧ i.bytes = bytes ∧ z.cells.size = k
  h0 : 0 < k

theorem SlK.mk' {P : Program} {t e : TypeId} {z : Value} {k bytes : Nat} (ht : P.underlying t = some (.slice e)) (h : (P.info? e).map (fun i => (i.zero, i.size, i.bytes)) = some (some z, k, bytes)) (hz : z.cells.size = k) (h0 : 0 < k) : SlK P t e k bytes := by
  refine ⟨ht, ?_, h0⟩
  obtain ⟨i, hi, h1, h2, h3⟩ := info_parts h
  exact ⟨i, z, hi, h1, h2, h3, hz⟩

theorem own_sliceK {w : World} {base : Nat} {e : TypeId} {k : Nat} {v : Value} {n : Nat} {vs : List Value} (h : w.ownsRow base e k v n vs) :
    ∃ A c, v = .slice A n c ∧ n ≤ c ∧ c ≤ maxLen ∧ vs.length = n * k ∧ Rd w A vs := by
  rcases h.2 with ⟨h1, h2⟩ | ⟨g, cap, cur, h1, _, _, h3, h4, _⟩
  · subst h2; subst h1
    have : vs = [] := List.eq_nil_of_length_eq_zero (by simpa using h.1)
    subst this
    exact ⟨none, 0, rfl, Nat.le_refl _, Nat.zero_le _, by simp, Rd.nil _ _⟩
  · subst h1
    refine ⟨_, _, rfl, h3, h4, h.1, ?_⟩
    intro i u hu
    exact ⟨⟨g, 0, none⟩, rfl, h.cells rfl i u hu⟩
theorem own_rdK {w : World} {base : Nat} {e : TypeId} {k : Nat} {A : Option Addr} {n c : Nat} {vs : List Value} (h : w.ownsRow base e k (.slice A n c) n vs) : Rd w A vs := by
  obtain ⟨A', c', hv, _, _, _, hr⟩ := own_sliceK h
  injection hv with h1
  subst h1
  exact hr
theorem own_nilK (w : World) (base : Nat) (e : TypeId) (k : Nat) : w.ownsRow base e k (.slice none 0 0) 0 [] := ⟨by simp, .inl ⟨rfl, rfl⟩⟩
theorem own_monoK {w : World} {base base' : Nat} {e : TypeId} {k : Nat} {v : Value} {n : Nat} {vs : List Value} (h : w.ownsRow base e k v n vs) (hb : base' ≤ base) : w.ownsRow base' e k v n vs := by
  refine ⟨h.1, ?_⟩
  rcases h.2 with h2 | ⟨g, cap, cur, h1, h2, h3⟩
  · exact .inl h2
  · exact .inr ⟨g, cap, cur, h1, Nat.le_trans hb h2, h3⟩
theorem own_belowK {w w' : World} {base : Nat} {e : TypeId} {k : Nat} {v : Value} {n : Nat} {vs : List Value} (h : w.ownsRow base e k v n vs) (hb : Below w.heap.size w w') : w'.ownsRow base e k v n vs := by
  refine ⟨h.1, ?_⟩
  rcases h.2 with h2 | ⟨g, cap, cur, h1, h2, h3, h4⟩
  · exact .inl h2
  · exact .inr ⟨g, cap, cur, h1, h2, by rw [hb.block g (Array.getElem?_eq_some_iff.1 h3).1]; exact h3, h4⟩
/-- A row abides where its own block does. -/
theorem own_keptK {w w' : World} {base : Nat} {e : TypeId} {k : Nat} {v : Value} {n : Nat} {vs : List Value} (h : w.ownsRow base e k v n vs) (hb : ∀ g, v.ownBlock = some g → w'.heap[g]? = w.heap[g]?) : w'.ownsRow base e k v n vs := by
  refine ⟨h.1, ?_⟩
  rcases h.2 with h2 | ⟨g, cap, cur, h1, h2, h3, h4⟩
  · exact .inl h2
  · exact .inr ⟨g, cap, cur, h1, h2, by rw [hb g (by rw [h1]; rfl)]; exact h3, h4⟩
theorem own_allocK {w : World} {base : Nat} {e : TypeId} {k : Nat} {v : Value} {n : Nat} {vs : List Value} (h : w.ownsRow base e k v n vs) (o : Obj) : (w.alloc o).ownsRow base e k v n vs := own_belowK h ((Below.refl _ _).alloc (Nat.le_refl _) _)
/-- The block of a row: from the base on, and it holds cells of the row's element type. -/
theorem own_blockK {w : World} {base : Nat} {e : TypeId} {k : Nat} {v : Value} {n : Nat} {vs : List Value} (h : w.ownsRow base e k v n vs) {g : Nat} (hg : v.ownBlock = some g) : base ≤ g ∧ g < w.heap.size ∧ ∃ cur, w.heap[g]? = some (.cells cur e (0, 0)) := by
  rcases h.2 with ⟨h1, _⟩ | ⟨g', cap, cur, h1, h2, h3, _⟩
  · subst h1; cases hg
  · subst h1
    have : g' = g := by injection hg
    subst this
    exact ⟨h2, box_lt h3, cur, h3⟩
/-- Two rows of unlike element types lie in unlike blocks. -/
theorem own_apart {w : World} {base base' : Nat} {e e' : TypeId} {k k' : Nat} {v v' : Value} {n n' : Nat} {vs vs' : List Value} (h : w.ownsRow base e k v n vs) (h' : w.ownsRow base' e' k' v' n' vs') (he : e ≠ e') {g : Nat} (hg : v.ownBlock = some g) : v'.ownBlock ≠ some g := by
  intro hg'
  obtain ⟨_, _, cur, hc⟩ := own_blockK h hg
  obtain ⟨_, _, cur', hc'⟩ := own_blockK h' hg'
  rw [hc] at hc'
  injection hc' with hc'
  injection hc' with _ hc'
  exact he hc'
theorem own_apart_box {w : World} {base : Nat} {e t : TypeId} {k : Nat} {v : Value} {n : Nat} {vs : List Value} (h : w.ownsRow base e k v n vs) {D : Nat} {cs : Array Value} (hD : w.heap[D]? = some (.cells cs t (0, 0))) (he : e ≠ t) : v.ownBlock ≠ some D := by
  intro hg
  obtain ⟨_, _, cur, hc⟩ := own_blockK h hg
  rw [hc] at hD
  injection hD with hD
  injection hD with _ hD
  exact he hD
theorem own_low {w : World} {base : Nat} {e : TypeId} {k : Nat} {v : Value} {n : Nat} {vs : List Value} (h : w.ownsRow base e k v n vs) {D : Nat} (hD : D < base) : v.ownBlock ≠ some D := by
  intro hg
  obtain ⟨h1, _⟩ := own_blockK h hg
  omega

section
variable {P : Program} {w : World}
/-- An empty block of the call's own ('[]T{}'). -/
theorem own_emptyK (w : World) (e : TypeId) {k : Nat} {base : Nat} (hb : base ≤ w.heap.size) : (w.alloc (.cells #[] e)).ownsRow base e k (.slice (some ⟨w.heap.size, 0, none⟩) 0 0) 0 [] :=
  ⟨by simp, .inr ⟨w.heap.size, 0, #[], rfl, hb, heap_alloc_new w _, Nat.le_refl _, by unfold maxLen; omega, by simp, by simp⟩⟩
/-- append(out, x): out is the call's own row of structs, x a struct in a block by itself. -/
theorem wp_appK {ops : Array Oper} {rest : List Oper} {o : Oper} {a : Act} {Q : Exit → Act → World → Prop} (hgd : o.guard = none) (s x : Operand) {t e : TypeId} {k bytes : Nat}
    (T : SlK P t e k bytes) (hb : bytes ≤ 128) (ho : o.op = .call { callee := .builtin .append, args := #[s, x], argTypes := #[t, t] })
    {base : Nat} {v : Value} {n : Nat} {xs : List Value} (hown : w.ownsRow base e k v n xs) (hs : a.eval s = v) (hn : n ≤ 1099511627775) (hbase : base ≤ w.heap.size)
    (g : Nat) (us : List Value) (hx : a.eval x = .slice (some ⟨g, 0, none⟩) 1 1) (hl : us.length = k) (hc : ∀ j u, us[j]? = some u → w.cell? ⟨g, j, none⟩ = some u) (h1 : us.all (fun u => u.oneCell') = true)
    (h : ∀ A c w', w'.ownsRow base e k (.slice A (n + 1) c) (n + 1) (xs ++ us) → w.grownBy w' v.ownBlock → ((Value.slice A (n + 1) c).ownBlock = v.ownBlock ∨ (Value.slice A (n + 1) c).ownBlock = some w.heap.size) → wpList P ops Q rest (a.put o.dst (.slice A (n + 1) c)) w') : wpList P ops Q (o :: rest) a w := by
  obtain ⟨i, z, hi, hz, hs1, hby, hzs⟩ := T.hi
  have hnews : ∀ j u', us[j]? = some u' → w.cell? ((⟨g, 0, none⟩ : Addr).add j) = some u' := by
    intro j u' hu
    rw [add_zero_lit, Nat.zero_add]; exact hc j u' hu
  have h1' : ∀ u ∈ us, u.oneCell' = true := List.all_eq_true.1 h1
  have h63 : n + 1 ≤ maxLen := by unfold maxLen; omega
  have hbt : (n + 1) * bytes ≤ 140737488355328 := by
    calc (n + 1) * bytes ≤ (n + 1) * 128 := Nat.mul_le_mul_left _ hb
      _ ≤ _ := by omega
  obtain ⟨v', w', hrun, hown', hg, _, hat⟩ := run_append_own_at (P := P) w base t o.type e i z k bytes T.ht hi hz hs1 hby hzs T.h0 v n xs hown ⟨g, 0, none⟩ 1 1 us (by rw [hl, Nat.one_mul]) hnews h1' h63 hbt hbase
  obtain ⟨A, c, rfl, _⟩ := own_sliceK hown'
  refine wpList_plain hgd fun K hK => ?_
  unfold Oper.wp execOp
  simp only [ho, resolve, invoke, builtin, Sem.run_bind, Sem.run_pure, Result.andThen_ok, List.map_toArray, List.map_cons, List.map_nil, hs, hx, hrun]
  exact hK _ _ (h A c w' hown' hg hat)
end
theorem new_cell {w : World} {cs : Array Value} {t : TypeId} {j : Nat} {u : Value} (h : cs.toList[j]? = some u) : (w.alloc (.cells cs t)).cell? ⟨w.heap.size, j, none⟩ = some u := by
  rw [cell_of_row _ _ _ _ _ _ (heap_alloc_new w _)]
  simpa using h
theorem box_grownK {w w' : World} {row : Option Nat} (hg : w.grownBy w' row) {b : Nat} {o : Obj} (h : w.heap[b]? = some o) (hne : row ≠ some b) : w'.heap[b]? = some o := (hg.block b (box_lt h) (fun e => hne e.symm)).trans h
theorem own_grownK {w w' : World} {row : Option Nat} (hg : w.grownBy w' row) {base : Nat} {e : TypeId} {k : Nat} {v : Value} {n : Nat} {vs : List Value} (h : w.ownsRow base e k v n vs) (hne : ∀ g, v.ownBlock = some g → row ≠ some g) : w'.ownsRow base e k v n vs :=
  own_keptK h fun g hg' => by
    obtain ⟨_, hlt, _⟩ := own_blockK h hg'
    exact hg.block g hlt (fun e => hne g hg' e.symm)
theorem own_setK {w : World} {base : Nat} {e : TypeId} {k : Nat} {v : Value} {n : Nat} {vs : List Value} (h : w.ownsRow base e k v n vs) {p : Addr} (hne : v.ownBlock ≠ some p.block) (u : Value) : (w.setCell p u).ownsRow base e k v n vs :=
  own_keptK h fun g hg' => Below.heap_setCell w p u g (fun e => hne (by rw [hg', e]))
section
variable {P : Program} {w : World}
/-- append(out, xs...): out is the call's own row of structs, xs whatever slice of such (nil too). -/
theorem wp_appNK {ops : Array Oper} {rest : List Oper} {o : Oper} {a : Act} {Q : Exit → Act → World → Prop} (hgd : o.guard = none) (s x : Operand) {t e : TypeId} {k bytes : Nat}
    (T : SlK P t e k bytes) (hb : bytes ≤ 128) (ho : o.op = .call { callee := .builtin .append, args := #[s, x], argTypes := #[t, t] })
    {base : Nat} {v : Value} {n : Nat} {xs : List Value} (hown : w.ownsRow base e k v n xs) (hs : a.eval s = v) (hbase : base ≤ w.heap.size)
    (A : Option Addr) (m c : Nat) (vs : List Value) (hx : a.eval x = .slice A m c) (hl : vs.length = m * k) (hr : Rd w A vs) (h1 : ∀ u ∈ vs, u.oneCell' = true) (hn : n + m ≤ 1099511627776)
    (h : ∀ A c w', w'.ownsRow base e k (.slice A (n + m) c) (n + m) (xs ++ vs) → Below base w w' → wpList P ops Q rest (a.put o.dst (.slice A (n + m) c)) w') : wpList P ops Q (o :: rest) a w := by
  obtain ⟨i, z, hi, hz, hs1, hby, hzs⟩ := T.hi
  rcases A with _ | ad
  · have hv : vs = [] := by
      cases vs with
      | nil => rfl
      | cons y ys => obtain ⟨a', ha, _⟩ := hr 0 y rfl; cases ha
    subst hv
    have hm : m = 0 := by
      have h0 := T.h0
      have : m * k = 0 := by simpa using hl.symm
      rcases Nat.mul_eq_zero.1 this with h | h
      · exact h
      · omega
    subst hm
    refine wpList_plain hgd fun K hK => ?_
    unfold Oper.wp execOp
    have hrun : (Builtin.append_ #[t, t] o.type #[v, .slice none 0 c]).run P w = .ok v w := by
      rcases hown.2 with ⟨rfl, rfl⟩ | ⟨g, cap, cur, rfl, _, _, hnc, _⟩
      · simp [Builtin.append_, run_underlying T.ht, sizeOf, typeInfo, hi, Builtin.lenOf, Builtin.firstCells]
      · simp [Builtin.append_, run_underlying T.ht, sizeOf, typeInfo, hi, Builtin.lenOf, Builtin.firstCells, hnc, storeCells]
    simp only [ho, resolve, invoke, builtin, Sem.run_bind, Sem.run_pure, Result.andThen_ok, List.map_toArray, List.map_cons, List.map_nil, hs, hx, hrun]
    obtain ⟨A', c', hv', _⟩ := own_sliceK hown
    subst hv'
    exact hK _ _ (h A' c' w (by simpa using hown) (Below.refl _ _))
  · refine wpList_append_own w hgd s x t ho base e i z k bytes T.ht hi hz hs1 hby hzs T.h0 v n xs hs hown ad m c vs hx hl ?_ h1 ?_ ?_ hbase ?_
    · intro j u hu
      obtain ⟨a', ha, hc⟩ := hr j u hu
      cases ha; exact hc
    · unfold maxLen; omega
    · calc (n + m) * bytes ≤ (n + m) * 128 := Nat.mul_le_mul_left _ hb
        _ ≤ _ := by omega
    · intro v' w' hown' hg _
      obtain ⟨A, c', rfl, _⟩ := own_sliceK hown'
      refine h A c' w' hown' ((Below.refl base w).grown hg hbase ?_)
      intro k hk
      exact (hown.lt k hk).1
/-- The same as one step of a region that draws its order. -/
theorem step_appK {ops : Array Oper} {o : Oper} {a : Act} {K : Act → World → Prop} {Q : Exit → Act → World → Prop} {E : Prop} (hgd : o.guard = none) (s x : Operand) {t e : TypeId} {k bytes : Nat}
    (T : SlK P t e k bytes) (hb : bytes ≤ 128) (ho : o.op = .call { callee := .builtin .append, args := #[s, x], argTypes := #[t, t] })
    {base : Nat} {v : Value} {n : Nat} {xs : List Value} (hown : w.ownsRow base e k v n xs) (hs : a.eval s = v) (hn : n ≤ 1099511627775) (hbase : base ≤ w.heap.size)
    (g : Nat) (us : List Value) (hx : a.eval x = .slice (some ⟨g, 0, none⟩) 1 1) (hl : us.length = k) (hc : ∀ j u, us[j]? = some u → w.cell? ⟨g, j, none⟩ = some u) (h1 : us.all (fun u => u.oneCell') = true)
    (h : ∀ A c w', w'.ownsRow base e k (.slice A (n + 1) c) (n + 1) (xs ++ us) → w.grownBy w' v.ownBlock → ((Value.slice A (n + 1) c).ownBlock = v.ownBlock ∨ (Value.slice A (n + 1) c).ownBlock = some w.heap.size) → K (a.put o.dst (.slice A (n + 1) c)) w') :
    if Region.wanted o (yielded ops a.tmps) = true then Oper.wp P o a w K Q else E := by
  have hw : Region.wanted o (yielded ops a.tmps) = true := by simp [Region.wanted, hgd]
  rw [if_pos hw]
  obtain ⟨i, z, hi, hz, hs1, hby, hzs⟩ := T.hi
  have hnews : ∀ j u', us[j]? = some u' → w.cell? ((⟨g, 0, none⟩ : Addr).add j) = some u' := by
    intro j u' hu
    rw [add_zero_lit, Nat.zero_add]; exact hc j u' hu
  have h1' : ∀ u ∈ us, u.oneCell' = true := List.all_eq_true.1 h1
  have h63 : n + 1 ≤ maxLen := by unfold maxLen; omega
  have hbt : (n + 1) * bytes ≤ 140737488355328 := by
    calc (n + 1) * bytes ≤ (n + 1) * 128 := Nat.mul_le_mul_left _ hb
      _ ≤ _ := by omega
  obtain ⟨v', w', hrun, hown', hg, _, hat⟩ := run_append_own_at (P := P) w base t o.type e i z k bytes T.ht hi hz hs1 hby hzs T.h0 v n xs hown ⟨g, 0, none⟩ 1 1 us (by rw [hl, Nat.one_mul]) hnews h1' h63 hbt hbase
  obtain ⟨A, c, rfl, _⟩ := own_sliceK hown'
  unfold Oper.wp execOp
  simp only [ho, resolve, invoke, builtin, Sem.run_bind, Sem.run_pure, Result.andThen_ok, List.map_toArray, List.map_cons, List.map_nil, hs, hx, hrun]
  exact h A c w' hown' hg hat
end
/-- These blocks stand as they stood. -/
structure KeepB (l : List Nat) (w w' : World) : Prop where
  size : w.heap.size ≤ w'.heap.size
  same : ∀ b ∈ l, b < w.heap.size ∧ w'.heap[b]? = w.heap[b]?
theorem KeepB.box {l : List Nat} {w w' : World} (h : KeepB l w w') {b : Nat} (hb : b ∈ l) {o : Obj} (ho : w.heap[b]? = some o) : w'.heap[b]? = some o := ((h.same b hb).2).trans ho
theorem KeepB.start {l : List Nat} {w : World} (h : ∀ b ∈ l, b < w.heap.size) : KeepB l w w := ⟨Nat.le_refl _, fun b hb => ⟨h b hb, rfl⟩⟩
theorem KeepB.drew {l : List Nat} {w w' : World} (h : KeepB l w w') : KeepB l w w'.drew := ⟨h.size, h.same⟩
theorem KeepB.alloc {l : List Nat} {w w' : World} (h : KeepB l w w') (o : Obj) : KeepB l w (w'.alloc o) :=
  ⟨Nat.le_trans h.size (by simp), fun b hb => ⟨(h.same b hb).1, (Below.heap_alloc w' o b (Nat.lt_of_lt_of_le (h.same b hb).1 h.size)).trans (h.same b hb).2⟩⟩
theorem KeepB.grown {l : List Nat} {w w' w2 : World} {row : Option Nat} (h : KeepB l w w') (hg : w'.grownBy w2 row) (hne : ∀ b ∈ l, row ≠ some b) : KeepB l w w2 :=
  ⟨Nat.le_trans h.size hg.size, fun b hb => ⟨(h.same b hb).1, (hg.block b (Nat.lt_of_lt_of_le (h.same b hb).1 h.size) (fun e => hne b hb e.symm)).trans (h.same b hb).2⟩⟩
/-- These blocks stand as they stood, as long as no block came. -/
def KeepT (l : List Nat) (w w' : World) : Prop := w'.heap.size ≤ w.heap.size → KeepB l w w'
theorem KeepT.start {l : List Nat} {w : World} (h : ∀ b ∈ l, b < w.heap.size) : Hid (KeepT l w w) := fun _ => KeepB.start h
theorem KeepT.drew {l : List Nat} {w w' : World} (h : Hid (KeepT l w w')) : Hid (KeepT l w w'.drew) := fun hs => (h.out hs).drew
theorem KeepT.late {l : List Nat} {w w' : World} (h : w.heap.size < w'.heap.size) : Hid (KeepT l w w') := fun hs => absurd hs (by omega)
theorem KeepT.cell {l : List Nat} {w : World} {b : Nat} {t : TypeId} {cs : Array Value} (hb : b ∈ l) (ho : w.heap[b]? = some (.cells cs t (0, 0))) : ∀ w', Hid (KeepT l w w') → w'.heap.size ≤ w.heap.size → ∀ i, w'.cell? ⟨b, i, none⟩ = cs[i]? :=
  fun _ h hs => (box_rules ((h.out hs).box hb ho)).1
theorem grown_below {w w' : World} {v : Value} {base : Nat} {e : TypeId} {k n : Nat} {vs : List Value} (hown : w.ownsRow base e k v n vs) (hg : w.grownBy w' v.ownBlock) (hb : base ≤ w.heap.size) : Below base w w' :=
  (Below.refl base w).grown hg hb fun g hk => (hown.lt g hk).1
theorem grown_undrew {w w' : World} {row : Option Nat} (h : w.drew.grownBy w' row) : w.grownBy w' row := ⟨h.os, h.tape, h.output, h.size, h.block⟩
theorem own_drewK {w : World} {base : Nat} {e : TypeId} {k : Nat} {v : Value} {n : Nat} {vs : List Value} (h : w.ownsRow base e k v n vs) : w.drew.ownsRow base e k v n vs := h
/-- What an append onto one's own row leaves as it was. -/
structure Step (w2 w3 : World) (v : Value) (base : Nat) (e : TypeId) : Prop where
  box : ∀ {b : Nat} {ob : Obj}, w2.heap[b]? = some ob → v.ownBlock ≠ some b → w3.heap[b]? = some ob
  low : ∀ {b : Nat} {ob : Obj}, w2.heap[b]? = some ob → b < base → w3.heap[b]? = some ob
  other : ∀ {b : Nat} {cs : Array Value} {t : TypeId}, w2.heap[b]? = some (.cells cs t (0, 0)) → e ≠ t → w3.heap[b]? = some (.cells cs t (0, 0))
  row : ∀ {base' : Nat} {e' : TypeId} {k' : Nat} {v' : Value} {n' : Nat} {vs' : List Value}, w2.ownsRow base' e' k' v' n' vs' → e' ≠ e → w3.ownsRow base' e' k' v' n' vs'
  below : ∀ {B : Nat} {W : World}, Below B W w2 → B ≤ base → B ≤ w2.heap.size → Below B W w3
  size : w2.heap.size + 1 ≤ w3.heap.size
theorem grown_step {w2 w3 : World} {o : Obj} {v : Value} {base : Nat} {e : TypeId} {k n : Nat} {vs : List Value} (h : w2.ownsRow base e k v n vs) (hg : (w2.alloc o).grownBy w3 v.ownBlock) : Step w2 w3 v base e := by
  have hb : ∀ {b : Nat} {ob : Obj}, w2.heap[b]? = some ob → v.ownBlock ≠ some b → w3.heap[b]? = some ob := fun hc hne => box_grownK hg (box_alloc hc o) hne
  refine ⟨hb, fun hc hlt => hb hc (own_low h hlt), fun hc he => hb hc (own_apart_box h hc he), fun hr he => own_keptK hr fun g hg' => ?_, fun hW h1 h2 => ?_, ?_⟩
  · obtain ⟨_, hlt, cur, hc⟩ := own_blockK hr hg'
    rw [hc]
    exact hb hc (own_apart hr h he hg')
  · exact (hW.alloc h2 o).trans ((Below.refl _ _).grown hg (by simp; omega) fun g hk => Nat.le_trans h1 (h.lt g hk).1)
  · have := hg.size
    simpa using this
end Go.Proofs.YtpncbkodhojicaaDoor
/- What turns in named blocks alone: a frame for objects that are written in place. No premise of its own. -/
namespace Go.Proofs.YtpncbkodhojicaaDoor
open Go.RowKit

/-- Of what lay in w nothing has turned but in the blocks of F. -/
structure Tn (F : List Nat) (w w' : World) : Prop where
  os : w'.os = w.os
  tape : w'.tape = w.tape
  output : w'.output = w.output
  size : w.heap.size ≤ w'.heap.size
  block : ∀ k, k < w.heap.size → k ∉ F → w'.heap[k]? = w.heap[k]?
section
variable {F F' : List Nat} {w w' w2 : World}
theorem Tn.refl (F : List Nat) (w : World) : Tn F w w := ⟨rfl, rfl, rfl, Nat.le_refl _, fun _ _ _ => rfl⟩
theorem Tn.trans (h : Tn F w w') (k : Tn F w' w2) : Tn F w w2 :=
  ⟨k.os.trans h.os, k.tape.trans h.tape, k.output.trans h.output, Nat.le_trans h.size k.size, fun i hi hf => (k.block i (Nat.lt_of_lt_of_le hi h.size) hf).trans (h.block i hi hf)⟩
theorem Tn.of_below (F : List Nat) (h : Below w.heap.size w w') : Tn F w w' := ⟨h.os, h.tape, h.output, h.size, fun k hk _ => h.block k hk⟩
theorem Tn.mono (h : Tn F w w') (hF : ∀ k, k ∈ F → k ∈ F') : Tn F' w w' := ⟨h.os, h.tape, h.output, h.size, fun k hk hf => h.block k hk (fun e => hf (hF k e))⟩
theorem Tn.drewN (h : Tn F w w') (n : Nat) : Tn F w (w'.drewN n) := ⟨h.os, h.tape, h.output, h.size, h.block⟩
theorem Tn.drew (h : Tn F w w') : Tn F w w'.drew := ⟨h.os, h.tape, h.output, h.size, h.block⟩
theorem Tn.below (h : Tn F w w') (hb : Below w'.heap.size w' w2) : Tn F w w2 := h.trans (Tn.of_below F hb)
theorem Tn.alloc (h : Tn F w w') (o : Obj) : Tn F w (w'.alloc o) := h.below ((Below.refl _ _).alloc (Nat.le_refl _) _)
theorem Tn.setCell (h : Tn F w w') {p : Addr} (hp : p.block ∈ F) (v : Value) : Tn F w (w'.setCell p v) :=
  h.trans ⟨rfl, rfl, rfl, by simp [World.setCell], fun k _ hf => Below.heap_setCell _ _ _ _ (fun e => hf (by rw [e]; exact hp))⟩
/-- A store into what was made since. -/
theorem Tn.setNew (h : Tn F w w') {p : Addr} (hp : w.heap.size ≤ p.block) (v : Value) : Tn F w (w'.setCell p v) :=
  ⟨h.os, h.tape, h.output, by simpa [World.setCell] using h.size, fun k hk hf => (Below.heap_setCell _ _ _ _ (by omega)).trans (h.block k hk hf)⟩
theorem Tn.grown (h : Tn F w w') {row : Option Nat} (hg : w'.grownBy w2 row) (hr : ∀ k, row = some k → k ∈ F ∨ w.heap.size ≤ k) : Tn F w w2 :=
  ⟨hg.os.trans h.os, hg.tape.trans h.tape, hg.output.trans h.output, Nat.le_trans h.size hg.size, fun k hk hf => (hg.block k (Nat.lt_of_lt_of_le hk h.size) (fun e => by rcases hr k e.symm with h1 | h1; exact hf h1; omega)).trans (h.block k hk hf)⟩
theorem Tn.toBelow {B : Nat} (h : Tn F w w') (hF : ∀ k, k ∈ F → B ≤ k) (hB : B ≤ w.heap.size) : Below B w w' :=
  ⟨h.os, h.tape, h.output, h.size, fun k hk => h.block k (by omega) (fun e => by have := hF k e; omega)⟩
theorem Tn.base {B : Nat} {w0 : World} (h0 : Below B w0 w) (h : Tn F w w') (hF : ∀ k, k ∈ F → B ≤ k) (hB : B ≤ w.heap.size) : Below B w0 w' := h0.trans (h.toBelow hF hB)
theorem Tn.box (h : Tn F w w') {b : Nat} {o : Obj} (hb : w.heap[b]? = some o) (hf : b ∉ F) : w'.heap[b]? = some o := (h.block b (box_lt hb) hf).trans hb
theorem Tn.cell (h : Tn F w w') {p : Addr} {v : Value} (hp : w.cell? p = some v) (hf : p.block ∉ F) : w'.cell? p = some v := by
  rw [World.cell?_of_block (w := w) (h.block p.block (World.block_lt_of_cell? w _ hp) hf)]; exact hp
theorem Rd.tn {A : Option Addr} {vs : List Value} (hr : Rd w A vs) (h : Tn F w w') (hA : ∀ a, A = some a → a.block ∉ F) : Rd w' A vs := fun i u hu => by
  obtain ⟨a, ha, hc⟩ := hr i u hu
  exact ⟨a, ha, h.cell hc (by rw [add_block]; exact hA a ha)⟩
end
end Go.Proofs.YtpncbkodhojicaaDoor
/- Stores into rows of one's own. No premise of its own. -/
namespace Go.Proofs.YtpncbkodhojicaaDoor
open Go.RowKit

/-- A store into an own row. -/
theorem own_put {w : World} {base : Nat} {e : TypeId} {k n c : Nat} {a : Addr} {vs : List Value} (h : w.ownsRow base e k (.slice (some a) n c) n vs) (m j : Nat) (u : Value) :
    (w.setCell ⟨(a.add m).block, (a.add m).off + j, none⟩ u).ownsRow base e k (.slice (some a) n c) n (vs.set (m + j) u) := by
  refine ⟨by rw [List.length_set]; exact h.1, ?_⟩
  rcases h.2 with ⟨h1, _⟩ | ⟨g, cap, cur, h1, h2, h3, h4, h5, h6, h7⟩
  · cases h1
  · injection h1 with h1 h8 h9
    injection h1 with h1
    subst h1 h9
    have e0 : ((⟨g, 0, none⟩ : Addr).add m) = ⟨g, m, none⟩ := by rw [add_zero_lit, Nat.zero_add]
    rw [e0]
    refine .inr ⟨g, _, cur.setIfInBounds (m + j) u, rfl, h2, ?_, h4, h5, by simpa using h6, ?_⟩
    · have := box_set (i := m + j) h3 u
      exact this
    · rw [Array.toList_setIfInBounds, List.take_set, h7]
theorem own_froz {w : World} {base : Nat} {e : TypeId} {k n c : Nat} {a : Addr} {vs : List Value} (h : w.ownsRow base e k (.slice (some a) n c) n vs) (m j : Nat) : w.frozen? ⟨(a.add m).block, (a.add m).off + j, none⟩ = false := by
  rcases h.2 with ⟨h1, _⟩ | ⟨g, cap, cur, h1, h2, h3, _⟩
  · cases h1
  · injection h1 with h1
    injection h1 with h1
    subst h1
    rw [add_zero_lit]
    exact (box_rules h3).2 _
theorem flat_set {α : Type} {f : α → List Value} {k : Nat} (hk : ∀ x, (f x).length = k) {d : α} : ∀ (l : List α) (i j : Nat) (y : α) (u : Value), i < l.length → j < k → f y = (f (l.getD i d)).set j u → (l.flatMap f).set (i * k + j) u = (l.set i y).flatMap f
  | x :: l, 0, j, y, u, _, hj, h => by
    rw [List.flatMap_cons, List.set_cons_zero, List.flatMap_cons, Nat.zero_mul, Nat.zero_add, List.set_append_left _ _ (by rw [hk]; exact hj), h]
    rfl
  | x :: l, i + 1, j, y, u, hi, hj, h => by
    have ih := flat_set hk (d := d) l i j y u (by simpa using hi) hj h
    rw [List.flatMap_cons, List.set_cons_succ, List.flatMap_cons, List.set_append_right _ _ (by rw [hk, Nat.add_mul]; omega), hk, show (i + 1) * k + j - k = i * k + j by rw [Nat.add_mul]; omega, ih]
theorem own_blk {w : World} {base : Nat} {e : TypeId} {k n c : Nat} {a : Addr} {vs : List Value} (h : w.ownsRow base e k (.slice (some a) n c) n vs) (m : Nat) : base ≤ (a.add m).block ∧ (Value.slice (some a) n c).ownBlock = some (a.add m).block := by
  rcases h.2 with ⟨h1, _⟩ | ⟨g, cap, cur, h1, h2, h3, _⟩
  · cases h1
  · injection h1 with h1
    injection h1 with h1
    subst h1
    rw [add_zero_lit]
    exact ⟨h2, rfl⟩
end Go.Proofs.YtpncbkodhojicaaDoor

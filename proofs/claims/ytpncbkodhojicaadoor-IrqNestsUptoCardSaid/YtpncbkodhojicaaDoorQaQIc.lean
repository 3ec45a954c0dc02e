/- Package irq: lines in memory; the walks of find, tell, Masked, Lost, Served, Active, Left. Conditions: lines' memory. -/
import Derived.Test.YtpncbkodhojicaaDoorQaRIc
import Derived.Test.YtpncbkodhojicaaDoorQaMIc
namespace Go.Proofs.YtpncbkodhojicaaDoor
open Go.RowKit Go.Shelf
variable {Bs : Nat → Prop}
attribute [local go_sem] Oper.semAt_some
/-- Where lines lie: their box, their row, the row of those that are being served. -/
structure IqF where
  p : Nat
  lA : Option Addr
  lc : Nat
  sA : Option Addr
  sc : Nat
def lmc (x : Lq) : List Value := [.pointer (some ⟨x.mb, 0, none⟩), .int .i64 x.top, .int .i64 x.bottom, .int .i64 x.lost, .int .i64 x.served]
def bqc (b : Bq) : List Value := [.int .i64 b.line, .int .i64 b.left, .int .i64 b.bottom]
/-- The set of the lines that are masked. -/
def mB (s : Qs) : Nat := mk fun i => decide (i < s.ls.length) && (s.ln i).masked
/-- The blocks of lines. -/
def qL (f : IqF) (s : Qs) : List Nat := f.p :: (f.lA.toList.map (·.block) ++ (f.sA.toList.map (·.block) ++ (s.ls.map (·.mb) ++ s.ls.map (·.mg))))
/-- A line's mask in memory. -/
def MkR (w : World) (last : Int) (x : Lq) : Prop := ∃ (many : Nat) (ml : Int) (fi : Nat) (rf : Int) (ring : List Int), x.how.many = (many : Int) ∧ ml ≤ last ∧ MkM w x.mb x.mg many x.how.window x.L ml fi rf ring
structure IqR (Bs : Nat → Prop) (w : World) (f : IqF) (s : Qs) (pA : Option Addr) (pc : Nat) (tA : Option Addr) (tc : Nat) : Prop where
  box : w.heap[f.p]? = some (.cells #[.int .u64 (qIC s).p, .int .u64 (qIC s).e, .int .u64 (qIC s).r, .int .u64 (qIC s).g, .slice pA (qIC s).prio.length pc, .int .i64 (qIC s).t, .slice tA (qIC s).stack.length tc, .slice f.lA s.ls.length f.lc, .slice f.sA s.bs.length f.sc, .int .u64 (mB s), .int .i64 s.last] 72 (0, 0))
  rp : Rd w pA ((qIC s).prio.map (.int .i64))
  rt : Rd w tA ((qIC s).stack.map (.int .i64))
  op : ∀ a, pA = some a → a.block < w.heap.size ∧ a.block ∉ qL f s
  ot : ∀ a, tA = some a → s.bs ≠ [] → a.block < w.heap.size ∧ a.block ∉ qL f s
  ll : w.ownsRow 0 77 5 (.slice f.lA s.ls.length f.lc) s.ls.length (s.ls.flatMap lmc)
  sl : w.ownsRow 0 92 3 (.slice f.sA s.bs.length f.sc) s.bs.length (s.bs.flatMap bqc)
  ms : ∀ x ∈ s.ls, MkR w s.last x
  nb : (s.ls.map (·.mb)).Nodup
  ng : (s.ls.map (·.mg)).Nodup
  bp : ∀ a, pA = some a → ¬ Bs a.block
  bt : ∀ a, tA = some a → s.bs ≠ [] → ¬ Bs a.block
  bl : ∀ b, Bs b → b < w.heap.size
/-- Lines in memory. -/
def IqM (Bs : Nat → Prop) (w : World) (f : IqF) (s : Qs) : Prop := ∃ pA pc tA tc, IqR Bs w f s pA pc tA tc
theorem own_headK {w : World} {base : Nat} {e : TypeId} {k n c : Nat} {A : Option Addr} {vs : List Value} (h : w.ownsRow base e k (.slice A n c) n vs) (hn : 0 < n) : ∃ g, A = some ⟨g, 0, none⟩ ∧ ∃ cur, w.heap[g]? = some (.cells cur e (0, 0)) := by
  rcases h.2 with ⟨h1, _⟩ | ⟨g, cap, cur, h1, h2, h3, _⟩
  · injection h1 with _ h1; omega
  · injection h1 with h1
    exact ⟨g, h1, cur, h3⟩
theorem own_cellq {w : World} {base e k n c g : Nat} {vs : List Value} (h : w.ownsRow base e k (.slice (some ⟨g, 0, none⟩) n c) n vs) (j : Nat) (u : Value) :
    (w.setCell ⟨g, j, none⟩ u).ownsRow base e k (.slice (some ⟨g, 0, none⟩) n c) n (vs.set j u) := by
  refine ⟨by rw [List.length_set]; exact h.1, ?_⟩
  rcases h.2 with ⟨h1, _⟩ | ⟨g', cap, cur, h1, h2, h3, h4, h5, h6, h7⟩
  · cases h1
  · injection h1 with h1 h8 h9
    injection h1 with h1
    injection h1 with h1
    subst h1 h9
    refine .inr ⟨g, _, cur.setIfInBounds j u, rfl, h2, box_set (i := j) h3 u, h4, h5, by simpa using h6, ?_⟩
    rw [Array.toList_setIfInBounds, List.take_set, h7]
theorem own_get {w : World} {base e k n c g : Nat} {α : Type} {fc : α → List Value} {l : List α} (h : w.ownsRow base e k (.slice (some ⟨g, 0, none⟩) n c) n (l.flatMap fc)) (hk : ∀ x, (fc x).length = k) (d : α) {i : Nat} (hi : i < l.length) {j : Nat} (hj : j < k) {v : Value} (hv : (fc (l.getD i d))[j]? = some v) :
    w.cell? ⟨g, i * k + j, none⟩ = some v ∧ w.frozen? ⟨g, i * k + j, none⟩ = false := by
  have h1 := flatMap_get hk d l i hi j hj
  rw [hv] at h1
  obtain ⟨a, ha, hc⟩ := own_rdK h _ _ h1
  cases ha
  rw [add_zero_lit, Nat.zero_add] at hc
  refine ⟨hc, ?_⟩
  rcases h.2 with ⟨h2, _⟩ | ⟨g', cap, cur, h2, h3, h4, _⟩
  · cases h2
  · injection h2 with h2
    injection h2 with h2
    injection h2 with h2
    subst h2
    exact (box_rules h4).2 _
section
variable {w w' : World} {f : IqF} {s : Qs} {pA : Option Addr} {pc : Nat} {tA : Option Addr} {tc : Nat}
theorem mem_qL {k : Nat} : k ∈ qL f s ↔ k = f.p ∨ (∃ a, f.lA = some a ∧ a.block = k) ∨ (∃ a, f.sA = some a ∧ a.block = k) ∨ (∃ x ∈ s.ls, x.mb = k) ∨ ∃ x ∈ s.ls, x.mg = k := by
  unfold qL
  rw [List.mem_cons, List.mem_append, List.mem_append, List.mem_append, List.mem_map, List.mem_map, List.mem_map, List.mem_map]
  simp only [Option.mem_toList]
theorem IqR.lt (h : IqR Bs w f s pA pc tA tc) : ∀ k ∈ qL f s, k < w.heap.size := fun k hk => by
  rcases mem_qL.1 hk with rfl | ⟨a, ha, rfl⟩ | ⟨a, ha, rfl⟩ | ⟨x, hx, rfl⟩ | ⟨x, hx, rfl⟩
  · exact box_lt h.box
  · exact (own_blockK h.ll (by rw [ha]; rfl)).2.1
  · exact (own_blockK h.sl (by rw [ha]; rfl)).2.1
  · obtain ⟨_, _, _, _, _, _, _, hm⟩ := h.ms x hx
    exact box_lt hm.box
  · obtain ⟨_, _, _, _, _, _, _, hm⟩ := h.ms x hx
    exact box_lt hm.rng
theorem IqR.tn {F : List Nat} (h : IqR Bs w f s pA pc tA tc) (ht : Tn F w w') (hF : ∀ k ∈ qL f s, k ∉ F) (hp : ∀ a, pA = some a → a.block ∉ F) (hq : ∀ a, tA = some a → s.bs ≠ [] → a.block ∉ F) : IqR Bs w' f s pA pc tA tc where
  box := ht.box h.box (hF _ (mem_qL.2 (.inl rfl)))
  rp := h.rp.tn ht hp
  rt := by
    by_cases hb : s.bs = []
    · show Rd w' tA ((s.bs.map fun b => (b.line : Int)).map (.int .i64))
      rw [hb]; exact Rd.nil _ _
    · exact h.rt.tn ht (fun a ha => hq a ha hb)
  op a ha := ⟨Nat.lt_of_lt_of_le (h.op a ha).1 ht.size, (h.op a ha).2⟩
  ot a ha hb := ⟨Nat.lt_of_lt_of_le (h.ot a ha hb).1 ht.size, (h.ot a ha hb).2⟩
  ll := own_keptK h.ll fun g hg => by
    obtain ⟨_, h2, _⟩ := own_blockK h.ll hg
    refine ht.block g h2 (hF g (mem_qL.2 (.inr (.inl ?_))))
    cases ha : f.lA with
    | none => rw [ha] at hg; cases hg
    | some a => rw [ha] at hg; exact ⟨a, rfl, by injection hg⟩
  sl := own_keptK h.sl fun g hg => by
    obtain ⟨_, h2, _⟩ := own_blockK h.sl hg
    refine ht.block g h2 (hF g (mem_qL.2 (.inr (.inr (.inl ?_)))))
    cases ha : f.sA with
    | none => rw [ha] at hg; cases hg
    | some a => rw [ha] at hg; exact ⟨a, rfl, by injection hg⟩
  ms x hx := by
    obtain ⟨m, ml, fi, rf, ring, h1, h2, hm⟩ := h.ms x hx
    exact ⟨m, ml, fi, rf, ring, h1, h2, hm.tn ht (hF _ (mem_qL.2 (.inr (.inr (.inr (.inl ⟨x, hx, rfl⟩)))))) (hF _ (mem_qL.2 (.inr (.inr (.inr (.inr ⟨x, hx, rfl⟩))))))⟩
  nb := h.nb
  ng := h.ng
  bp := h.bp
  bt := h.bt
  bl b hb := Nat.lt_of_lt_of_le (h.bl b hb) ht.size
theorem IqR.below (h : IqR Bs w f s pA pc tA tc) (hb : Below w.heap.size w w') : IqR Bs w' f s pA pc tA tc := h.tn (Tn.of_below [] hb) (fun _ _ => by simp) (fun _ _ => by simp) (fun _ _ _ => by simp)
theorem IqM.below (h : IqM Bs w f s) (hb : Below w.heap.size w w') : IqM Bs w' f s := by
  obtain ⟨pA, pc, tA, tc, h⟩ := h
  exact ⟨pA, pc, tA, tc, h.below hb⟩
theorem IqM.drewN (h : IqM Bs w f s) (n : Nat) : IqM Bs (w.drewN n) f s := by
  obtain ⟨pA, pc, tA, tc, h⟩ := h
  exact ⟨pA, pc, tA, tc, h.tn (F := []) ((Tn.refl _ _).drewN n) (fun _ _ => by simp) (fun _ _ => by simp) (fun _ _ _ => by simp)⟩
theorem IqM.bl (h : IqM Bs w f s) : ∀ b, Bs b → b < w.heap.size := by
  obtain ⟨pA, pc, tA, tc, h⟩ := h
  exact h.bl
theorem IqM.lt (h : IqM Bs w f s) : ∀ k ∈ qL f s, k < w.heap.size := by
  obtain ⟨pA, pc, tA, tc, h⟩ := h
  exact h.lt
/-- A line's cells. -/
theorem IqR.line (h : IqR Bs w f s pA pc tA tc) {i : Nat} (hi : i < s.ls.length) : ∃ g, f.lA = some ⟨g, 0, none⟩ ∧ g ≠ f.p ∧
    w.cell? ⟨g, i * 5 + 0, none⟩ = some (.pointer (some ⟨(s.ln i).mb, 0, none⟩)) ∧ w.cell? ⟨g, i * 5 + 1, none⟩ = some (.int .i64 (s.ln i).top) ∧ w.cell? ⟨g, i * 5 + 2, none⟩ = some (.int .i64 (s.ln i).bottom) ∧ w.cell? ⟨g, i * 5 + 3, none⟩ = some (.int .i64 (s.ln i).lost) ∧ w.cell? ⟨g, i * 5 + 4, none⟩ = some (.int .i64 (s.ln i).served) ∧ (∀ j, w.frozen? ⟨g, j, none⟩ = false) ∧ g < w.heap.size := by
  obtain ⟨g, hg, cur, hc⟩ := own_headK h.ll (by omega)
  have hl := h.ll
  rw [hg] at hl
  refine ⟨g, hg, fun e => ?_, (own_get hl (fun _ => rfl) lq0 hi (by decide) rfl).1, (own_get hl (fun _ => rfl) lq0 hi (by decide) rfl).1, (own_get hl (fun _ => rfl) lq0 hi (by decide) rfl).1, (own_get hl (fun _ => rfl) lq0 hi (by decide) rfl).1, (own_get hl (fun _ => rfl) lq0 hi (by decide) rfl).1, (box_rules hc).2, box_lt hc⟩
  rw [e, h.box] at hc
  injection hc with hc
  injection hc with _ hc
  exact absurd hc (by decide)
end
set_option maxHeartbeats 4000000 in
theorem ifind_in (f : IqF) (s : Qs) (i : Nat) (g : Nat) (w : World) (h : IqM Bs w f s) (hi : i < s.ls.length) (hg : f.lA = some ⟨g, 0, none⟩) :
    Calls Tryd.prog 36 #[.pointer (some ⟨f.p, 0, none⟩), .int .i64 i] w fun e w' => e = .returned (.pointer (some ⟨g, i * 5, none⟩)) ∧ w = w' := by
  obtain ⟨pA, pc, tA, tc, h⟩ := h
  obtain ⟨x, y⟩ := box_rules h.box
  have l := box_lt h.box
  rw [hg] at x
  clear h hg
  have z1 : decide (s.ls.length ≤ i) = false := decide_eq_false (by omega)
  have z2 : ¬ (s.ls.length : Int) ≤ (i : Int) := by omega
  have z3 : decide ((s.ls.length : Int) ≤ (i : Int)) = false := decide_eq_false z2
  have z4 : (i : Int) < (s.ls.length : Int) := by omega
  go_enter Tryd.func36, Tryd.ntmps36
  go_wp2
  go_ret
  exact ⟨by first | rfl | simp, rfl⟩
set_option maxHeartbeats 4000000 in
theorem ifind_out (f : IqF) (s : Qs) (i : Int) (w : World) (h : IqM Bs w f s) (hi : ¬ (0 ≤ i ∧ i < s.ls.length)) :
    Calls Tryd.prog 36 #[.pointer (some ⟨f.p, 0, none⟩), .int .i64 i] w fun e w' => e = .returned (.pointer none) ∧ w = w' := by
  obtain ⟨pA, pc, tA, tc, h⟩ := h
  obtain ⟨x, y⟩ := box_rules h.box
  have l := box_lt h.box
  clear h
  by_cases h0 : i < 0
  · have z1 : decide (i < 0) = true := decide_eq_true h0
    clear hi
    go_enter Tryd.func36, Tryd.ntmps36
    go_wp2
    go_ret
    exact ⟨rfl, rfl⟩
  · have z0 : decide (i < 0) = false := decide_eq_false h0
    have z2 : (s.ls.length : Int) ≤ i := by omega
    have z3 : decide ((s.ls.length : Int) ≤ i) = true := decide_eq_true z2
    clear hi
    go_enter Tryd.func36, Tryd.ntmps36
    go_wp2
    go_ret
    exact ⟨rfl, rfl⟩
section
variable {w w' : World} {f : IqF} {s s' : Qs} {pA : Option Addr} {pc : Nat} {tA : Option Addr} {tc : Nat}
/-- Where nothing but the sets, what is left, and the lines' cells turn. -/
theorem IqR.upd (h : IqR Bs w f s pA pc tA tc) (hq : qL f s' = qL f s) {pA' : Option Addr} {pc' : Nat} {tA' : Option Addr} {tc' : Nat}
    (box : w'.heap[f.p]? = some (.cells #[.int .u64 (qIC s').p, .int .u64 (qIC s').e, .int .u64 (qIC s').r, .int .u64 (qIC s').g, .slice pA' (qIC s').prio.length pc', .int .i64 (qIC s').t, .slice tA' (qIC s').stack.length tc', .slice f.lA s'.ls.length f.lc, .slice f.sA s'.bs.length f.sc, .int .u64 (mB s'), .int .i64 s'.last] 72 (0, 0)))
    (rp : Rd w' pA' ((qIC s').prio.map (.int .i64))) (rt : Rd w' tA' ((qIC s').stack.map (.int .i64)))
    (op : ∀ a, pA' = some a → a.block ∉ qL f s) (ot : ∀ a, tA' = some a → s'.bs ≠ [] → a.block ∉ qL f s) (hp0 : 1 ≤ (qIC s').prio.length)
    (ll : w'.ownsRow 0 77 5 (.slice f.lA s'.ls.length f.lc) s'.ls.length (s'.ls.flatMap lmc)) (sl : w'.ownsRow 0 92 3 (.slice f.sA s'.bs.length f.sc) s'.bs.length (s'.bs.flatMap bqc))
    (ms : ∀ x ∈ s'.ls, MkR w' s'.last x) (nb : s'.ls.map (·.mb) = s.ls.map (·.mb)) (ng : s'.ls.map (·.mg) = s.ls.map (·.mg)) (bp : ∀ a, pA' = some a → ¬ Bs a.block) (bt : ∀ a, tA' = some a → s'.bs ≠ [] → ¬ Bs a.block) (hz : w.heap.size ≤ w'.heap.size) : IqR Bs w' f s' pA' pc' tA' tc' where
  box := box
  rp := rp
  rt := rt
  op a ha := by
    rw [hq]
    refine ⟨?_, op a ha⟩
    obtain ⟨b, hb, hc⟩ := rp.get (i := 0) (by rw [List.length_map]; omega)
    rw [ha] at hb; cases hb
    exact Rd.lt hc
  ot a ha hb := by
    rw [hq]
    refine ⟨?_, ot a ha hb⟩
    have h0 : 0 < ((qIC s').stack.map (Value.int .i64)).length := by
      rw [List.length_map]
      show 0 < (s'.bs.map _).length
      rw [List.length_map]
      exact List.length_pos_iff.2 hb
    obtain ⟨b, hb, hc⟩ := rt.get h0
    rw [ha] at hb; cases hb
    exact Rd.lt hc
  ll := ll
  sl := sl
  ms := ms
  nb := by rw [nb]; exact h.nb
  ng := by rw [ng]; exact h.ng
  bp := bp
  bt := bt
  bl b hb := Nat.lt_of_lt_of_le (h.bl b hb) hz
theorem put_map {α : Type} (fa : Lq → α) {s : Qs} {n : Nat} {x : Lq} (hn : n < s.ls.length) (hx : fa x = fa (s.ln n)) : (s.put n x).ls.map fa = s.ls.map fa := by
  refine List.ext_getElem (by rw [List.length_map, List.length_map, put_len]) fun i h1 h2 => ?_
  have h3 : i < s.ls.length := by rw [List.length_map] at h2; exact h2
  rw [List.getElem_map, List.getElem_map]
  have e1 := put_ln (s := s) (x := x) hn i
  rw [ln_get (by rw [put_len]; exact h3), ln_get h3] at e1
  rw [e1]
  split
  · rename_i hi
    subst hi
    rw [hx, ln_get h3]
  · rfl
theorem put_qL {f : IqF} {s : Qs} {n : Nat} {x : Lq} (hn : n < s.ls.length) (h1 : x.mb = (s.ln n).mb) (h2 : x.mg = (s.ln n).mg) : qL f (s.put n x) = qL f s := by
  unfold qL
  rw [put_map (·.mb) hn h1, put_map (·.mg) hn h2]
theorem MkR.tn {F : List Nat} {last last' : Int} {x : Lq} (h : MkR w last x) (ht : Tn F w w') (h1 : x.mb ∉ F) (h2 : x.mg ∉ F) (hl : last ≤ last') : MkR w' last' x := by
  obtain ⟨m, ml, fi, rf, ring, q1, q2, hm⟩ := h
  exact ⟨m, ml, fi, rf, ring, q1, Int.le_trans q2 hl, hm.tn ht h1 h2⟩
/-- A line's mask does not lie in the box, nor in the rows. -/
theorem IqR.apart (h : IqR Bs w f s pA pc tA tc) {x : Lq} (hx : x ∈ s.ls) : (x.mb ≠ f.p ∧ x.mg ≠ f.p) ∧ (∀ a, f.lA = some a → x.mb ≠ a.block ∧ x.mg ≠ a.block) ∧ ∀ a, f.sA = some a → x.mb ≠ a.block ∧ x.mg ≠ a.block := by
  obtain ⟨m, ml, fi, rf, ring, q1, q2, hm⟩ := h.ms x hx
  have t1 := hm.box
  have t2 := hm.rng
  have key : ∀ {k : Nat} {cs cs' : Array Value} {t t' : TypeId}, w.heap[k]? = some (.cells cs t (0, 0)) → w.heap[k]? = some (.cells cs' t' (0, 0)) → t = t' := fun a b => by
    rw [a] at b; injection b with b; injection b
  refine ⟨⟨fun e => ?_, fun e => ?_⟩, fun a ha => ?_, fun a ha => ?_⟩
  · rw [e] at t1; exact absurd (key t1 h.box) (by decide)
  · rw [e] at t2; exact absurd (key t2 h.box) (by decide)
  · obtain ⟨_, _, cur, hc⟩ := own_blockK h.ll (by rw [ha]; rfl)
    exact ⟨fun e => absurd (key (e ▸ t1) hc) (by decide), fun e => absurd (key (e ▸ t2) hc) (by decide)⟩
  · obtain ⟨_, _, cur, hc⟩ := own_blockK h.sl (by rw [ha]; rfl)
    exact ⟨fun e => absurd (key (e ▸ t1) hc) (by decide), fun e => absurd (key (e ▸ t2) hc) (by decide)⟩
/-- The rows and the box lie apart. -/
theorem IqR.rows (h : IqR Bs w f s pA pc tA tc) : (∀ a, f.lA = some a → a.block ≠ f.p) ∧ (∀ a, f.sA = some a → a.block ≠ f.p) ∧ ∀ a b, f.lA = some a → f.sA = some b → a.block ≠ b.block := by
  have key : ∀ {k : Nat} {cs cs' : Array Value} {t t' : TypeId}, w.heap[k]? = some (.cells cs t (0, 0)) → w.heap[k]? = some (.cells cs' t' (0, 0)) → t = t' := fun a b => by
    rw [a] at b; injection b with b; injection b
  refine ⟨fun a ha e => ?_, fun a ha e => ?_, fun a b ha hb e => ?_⟩
  · obtain ⟨_, _, cur, hc⟩ := own_blockK h.ll (by rw [ha]; rfl)
    rw [e] at hc; exact absurd (key hc h.box) (by decide)
  · obtain ⟨_, _, cur, hc⟩ := own_blockK h.sl (by rw [ha]; rfl)
    rw [e] at hc; exact absurd (key hc h.box) (by decide)
  · obtain ⟨_, _, cur, hc⟩ := own_blockK h.ll (by rw [ha]; rfl)
    obtain ⟨_, _, cur', hc'⟩ := own_blockK h.sl (by rw [hb]; rfl)
    rw [e] at hc; exact absurd (key hc hc') (by decide)
end
end Go.Proofs.YtpncbkodhojicaaDoor

/- vergelaw19: acts as they read; how IrqNests begins; a part of a function's code. No premise of its own. -/
import Derived.Test.YtpncbkodhojicaaDoorQdMIc
import Derived.Test.YtpncbkodhojicaaDoorMid
import Derived.BigQuiet
import Derived.Deep.CutBlock
namespace Go.Proofs.YtpncbkodhojicaaDoor
open Go.RowKit Go.Shelf
attribute [local go_sem] Oper.semAt_some
structure Aq where
  kind : Int
  line : Int
  N : Int
  M : Int
def aq0 : Aq := ⟨0, 0, 0, 0⟩
def aqc (x : Aq) : List Value := [.int .i64 x.kind, .int .i64 x.line, .int .i64 x.N, .int .i64 x.M]
theorem Rd.aqAt {w : World} {A : Option Addr} {ls : List Aq} (h : Rd w A (ls.flatMap aqc)) {k : Nat} (hk : k < ls.length) : ∃ a x, A = some a ∧ ls.getD k aq0 = x ∧
    w.cell? (a.add (k * 4)) = some (.int .i64 x.kind) ∧ w.cell? ⟨(a.add (k * 4)).block, (a.add (k * 4)).off + 1, none⟩ = some (.int .i64 x.line) ∧
    w.cell? ⟨(a.add (k * 4)).block, (a.add (k * 4)).off + 2, none⟩ = some (.int .i64 x.N) ∧ w.cell? ⟨(a.add (k * 4)).block, (a.add (k * 4)).off + 3, none⟩ = some (.int .i64 x.M) := by
  have g := flatMap_get (f := aqc) (k := 4) (fun _ => rfl) aq0 ls k hk
  generalize ls.getD k aq0 = x at *
  obtain ⟨a, rfl, h0⟩ := h _ _ (g 0 (by omega))
  obtain ⟨_, ha1, h1⟩ := h _ _ (g 1 (by omega)); cases ha1
  obtain ⟨_, ha1, h2⟩ := h _ _ (g 2 (by omega)); cases ha1
  obtain ⟨_, ha1, h3⟩ := h _ _ (g 3 (by omega)); cases ha1
  rw [add_plus _ _ _ (by omega)] at h1 h2 h3
  exact ⟨a, x, rfl, rfl, h0, h1, h2, h3⟩
theorem NsM.new {w : World} {p : Nat} {xs : List Lq} {W V : World} {n : Nat} (h : IqO w p [] ⟨xs, [], 0⟩ W) (hb : Below w.heap.size w W)
    (hV : V = ((W.alloc (.cells (madeCells #[.int .i64 0] n) 2)).alloc (.cells (madeCells #[.int .i64 0] n) 2)).alloc (.cells (madeCells #[.slice none 0 0] n) 47)) :
    NsM w p W.heap.size (W.heap.size + 1) (W.heap.size + 2) V ⟨xs, [], 0⟩ (List.replicate n 0) (List.replicate n 0) (List.replicate n tt0) [] none 0 [W.heap.size + 2, W.heap.size + 1, W.heap.size] := by
  have hsz := hb.size
  have hz : V.heap.size = W.heap.size + 3 := by rw [hV]; simp
  have hbV : Below W.heap.size W V := by rw [hV]; exact (((Below.refl _ _).alloc (Nat.le_refl _) _).alloc (by simp) _).alloc (by simp; omega) _
  have e1 : madeCells #[Value.int .i64 0] n = ((List.replicate n (0 : Int)).map (Value.int .i64)).toArray := Array.toList_inj.1 (by rw [toList_madeCells_one]; simp)
  have e2 : madeCells #[Value.slice none 0 0] n = ((List.replicate n tt0).map Tt.v).toArray := Array.toList_inj.1 (by rw [toList_madeCells_one]; simp [Tt.v, tt0])
  have hn : ∀ i, (List.replicate n tt0).getD i tt0 = tt0 := fun i => by
    rw [List.getD_eq_getElem?_getD, List.getElem?_replicate]
    split <;> rfl
  exact {
    io := h.more hbV (fun b hb => by
      simp only [List.mem_cons, List.not_mem_nil, or_false] at hb
      right; omega)
    lo := hb.trans (hbV.mono hsz)
    lx := by rw [hV, e1]; exact box_alloc (box_alloc (heap_alloc_new W _) _) _
    wx := by rw [hV, e1]; exact box_alloc (heap_new_at _ (by simp)) _
    tx := by rw [hV, e2]; exact heap_new_at _ (by simp)
    tr := fun x hx => by rw [List.eq_of_mem_replicate hx]; exact own_nilK _ _ _ _
    ta := fun x hx a ha => by rw [List.eq_of_mem_replicate hx] at ha; cases ha
    td := fun i j a b ha => by rw [hn] at ha; cases ha
    sr := own_nilK _ _ _ _
    sa := fun a ha => by cases ha
    ml := by simp
    mw := by simp
    mt := by simp
    ne := by omega
    low := by omega }
theorem NI.new {ls : List Ln} {xs : List Lq} (hw : irqWhy ls = 0) (hh : xs.map Lq.how = ls) (hn : ∀ x ∈ xs, x = lnNew x.how x.mb x.mg) : NI ls 0 ⟨xs, [], 0⟩ (List.replicate ls.length 0) (List.replicate ls.length 0) ((List.replicate ls.length tt0).map Tt.L) := by
  have hl : xs.length = ls.length := by rw [← hh, List.length_map]
  have h0 : ∀ i, (List.replicate ls.length (0 : Int)).getD i 0 = 0 := fun i => by
    rw [List.getD_eq_getElem?_getD, List.getElem?_replicate]; split <;> rfl
  have h1 : ∀ i, ((List.replicate ls.length tt0).map Tt.L).getD i [] = [] := fun i => by
    rw [List.map_replicate, List.getD_eq_getElem?_getD, List.getElem?_replicate]; split <;> rfl
  refine ⟨hh, QI.fresh hw hh hn, List.length_replicate, List.length_replicate, fun b hb => (by cases hb), fun i hi => ?_, ⟨by rw [List.length_map, List.length_replicate]; exact hl.symm, fun i hi c hc => ?_⟩, fun i hi => by rw [h1]; exact Nat.le_refl _, fun x hx => by rw [List.eq_of_mem_replicate hx]; omega, fun x hx => by rw [List.eq_of_mem_replicate hx]; omega⟩
  · rw [h0]
    have hx := ln_mem (s := ⟨xs, [], 0⟩) (i := i) (by show i < xs.length; omega)
    rw [hn _ hx]; rfl
  · rw [h1]
    have hx := ln_mem (s := ⟨xs, [], 0⟩) (i := i) hi
    rw [hn _ hx]; rfl
theorem raise_bs (s : Qs) (line top bottom : Int) : (raiseS s line top bottom).bs = s.bs ∧ (raiseS s line top bottom).last = s.last := by
  unfold raiseS; split
  · exact ⟨rfl, rfl⟩
  · split <;> exact ⟨rfl, rfl⟩
theorem tl_get {tt : List Tt} {i : Nat} (hi : i < tt.length) : (tt.map Tt.L).getD i [] = (tt.getD i tt0).L := by
  rw [List.getD_eq_getElem?_getD, List.getElem?_map, List.getElem?_eq_getElem hi, List.getD_eq_getElem?_getD, List.getElem?_eq_getElem hi]; rfl
theorem filt_step {l : List Int} (P : Int → Bool) {j : Nat} (hj : j < l.length) : (((l.take (j + 1)).filter P).length : Int) = ((l.take j).filter P).length + (if P (l.getD j 0) = true then 1 else 0) := by
  rw [List.take_succ_eq_append_getElem hj, List.filter_append, List.length_append, List.getD_eq_getElem?_getD, List.getElem?_eq_getElem hj]
  show _ = _ + (if P l[j] = true then (1 : Int) else 0)
  cases h : P l[j]
  · rw [List.filter_cons_of_neg (by rw [h]; decide)]; simp
  · rw [List.filter_cons_of_pos (by rw [h])]; simp
/-- Where the law stands: the lines, and what it keeps beside them. -/
def NsI (w : World) (ls : List Ln) (p bl bw bt : Nat) (W : World) (n : Nat) (s : Qs) (SA : Option Addr) (sc : Nat) : Prop :=
  ∃ left want tt M, NsM w p bl bw bt W s left want tt (s.bs.map fun b => (b.line : Int)) SA sc M ∧ NI ls n s left want (tt.map Tt.L)
/-- Where the law stands behind a part of a round. -/
def RelN (w : World) (ls : List Ln) (p bl bw bt k : Nat) (st nw : Value) (wx : World) : Prop := ∃ (s' : Qs) (SA' : Option Addr) (sc' : Nat), st = .slice SA' s'.bs.length sc' ∧ nw = .int .i64 s'.last ∧ Hid (NsI w ls p bl bw bt wx (k + 1) s' SA' sc')
/-- A post that no panic meets. -/
def calm (Q : Exit → Act → World → Prop) : Exit → Act → World → Prop
  | .panic _, _, _ => False
  | .outgrown, _, _ => False
  | .normal, a, w => Q .normal a w
  | .ret, a, w => Q .ret a w
  | .exit i, a, w => Q (.exit i) a w
  | .goto i, a, w => Q (.goto i) a w
theorem calm_le {P : Program} {c : Code} {Q : Exit → Act → World → Prop} {a : Act} {w : World} (h : c.wp P (calm Q) a w) : c.wp P Q a w := wp_mono h (fun e a w hq => by
  cases e with
  | panic _ => exact hq.elim
  | outgrown => exact hq.elim
  | normal => exact hq
  | ret => exact hq
  | exit i => exact hq
  | goto i => exact hq)
/-- A part of a code. -/
def pick : List Nat → Code → Code
  | [], c => c
  | 0 :: r, .seq a _ => pick r a
  | 1 :: r, .seq _ b => pick r b
  | 2 :: r, .cond _ a _ => pick r a
  | 3 :: r, .cond _ _ b => pick r b
  | 4 :: r, .block _ b => pick r b
  | 5 :: r, .loop b => pick r b
  | _, c => c
end Go.Proofs.YtpncbkodhojicaaDoor

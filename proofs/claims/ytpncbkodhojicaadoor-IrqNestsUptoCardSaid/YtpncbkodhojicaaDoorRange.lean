/- A range over a function at the wide fence: the caller's law with an invariant on its own boxes, and the way out of such a function. No premise of its own. -/
import Derived.Test.YtpncbkodhojicaaDoorKit
import Derived.RangeFuncNested
import Derived.RangeFuncBound
import Derived.RangeFuncCalls
import Derived.RangeFuncLeaves
import Derived.Shelf.Abstract
import Derived.Shelf.RegionOpen
import Derived.OwnWalkIn
import Derived.TacticsInMore
import Derived.LoopNIn
import Derived.LoopIn
namespace Go.Proofs.YtpncbkodhojicaaDoor
open Go.RowKit Go.Shelf

variable {P : Program}

/-- A function that holds a range over a function: its contract from its body. -/
theorem calls_marks {f : FuncId} {fn : Func} {c : Code} {args : Array Value} {w : World} {R : Ending → World → Prop} (hf : P.funcs[f]? = some fn) (hb : fn.body = some c)
    (h : c.wp P (bodyPostM Fence.wide 9 P fn R) { tmps := args ++ Array.replicate (fn.ntmps - args.size) undef, defers := [] } w) : Calls P f args w R :=
  callsIn_wide.1 (callsIn_of_wp_marks hf hb trivial (wpIn_wide.2 h) rfl)

/-- The way out where no loop has been come to. -/
theorem post_plain {fn : Func} {R : Ending → World → Prop} {tmps : Array Value} {w : World} {v : Value} (hr : (results fn tmps).run P w = .ok v w) (h : R (.returned v) w) :
    bodyPostM Fence.wide 9 P fn R .ret { tmps := tmps, defers := [] } w := ⟨v, hr, h⟩

/-- The way out behind a loop: the mark is taken. -/
theorem post_mark {fn : Func} {R : Ending → World → Prop} {tmps : Array Value} {w : World} {D : Nat} {v : Value} (hK : w.heap[D]? = some (.deferred (some [])))
    (hr : (results fn tmps).run P (w.putObj D (.deferred none)) = .ok v (w.putObj D (.deferred none))) (h : R (.returned v) (w.putObj D (.deferred none))) :
    bodyPostM Fence.wide 9 P fn R .ret { tmps := tmps, defers := [{ target := .collected D, args := #[] }] } w :=
  ⟨by simp, .inl ⟨_, _, rfl, run_takeDeferred hK, v, hr, h⟩⟩

/-- These blocks hold these cells, none frozen. -/
def Held (bs : List (Nat × List Value)) (W : World) : Prop :=
  ∀ x ∈ bs, ∀ i u, x.2[i]? = some u → W.cell? ⟨x.1, i, none⟩ = some u ∧ W.frozen? ⟨x.1, i, none⟩ = false

theorem Held.nil (W : World) : Held [] W := fun _ h => by cases h
theorem Held.cons {b : Nat} {vs : List Value} {bs : List (Nat × List Value)} {W : World} (h : ∀ i u, vs[i]? = some u → W.cell? ⟨b, i, none⟩ = some u ∧ W.frozen? ⟨b, i, none⟩ = false) (t : Held bs W) : Held ((b, vs) :: bs) W := by
  intro x hx
  rcases List.mem_cons.1 hx with rfl | hx
  · exact h
  · exact t x hx
theorem Held.one {b : Nat} {v : Value} {bs : List (Nat × List Value)} {W : World} (h : W.cell? ⟨b, 0, none⟩ = some v) (h' : W.frozen? ⟨b, 0, none⟩ = false) (t : Held bs W) : Held ((b, [v]) :: bs) W :=
  Held.cons (fun i u hu => by cases i with
    | zero => simp at hu; subst hu; exact ⟨h, h'⟩
    | succ i => simp at hu) t
theorem Held.head {b : Nat} {v : Value} {bs : List (Nat × List Value)} {W : World} (h : Held ((b, [v]) :: bs) W) : W.cell? ⟨b, 0, none⟩ = some v ∧ W.frozen? ⟨b, 0, none⟩ = false :=
  h (b, [v]) (List.mem_cons_self ..) 0 v rfl
theorem Held.tail {x : Nat × List Value} {bs : List (Nat × List Value)} {W : World} (h : Held (x :: bs) W) : Held bs W := fun y hy => h y (List.mem_cons_of_mem _ hy)

theorem held_own {β : Type} (f : β → List (Nat × List Value)) : Own fun (s : β) W => Held (f s) W := by
  intro s W W' row hs hg hr x hx i u hu
  obtain ⟨h1, h2⟩ := hs x hx i u hu
  exact ⟨cell_kept h1 hg hr, (frozen_kept h1 hg hr).trans h2⟩

theorem ko_set {W W' : World} (h : KeepsOthers W W') (a : Addr) (v : Value) : KeepsOthers W (W'.setCell a v) := h.trans (KeepsOthers.setCell _ _ _)
theorem ko_alloc {W W' : World} (h : KeepsOthers W W') (o : Obj) : KeepsOthers W (W'.alloc o) := h.trans (KeepsOthers.alloc _ _)
theorem ko_drew {W W' : World} (h : KeepsOthers W W') : KeepsOthers W W'.drew := ⟨h.size, h.same⟩
theorem ko_drewN {W W' : World} (h : KeepsOthers W W') (n : Nat) : KeepsOthers W (W'.drewN n) := ⟨h.size, h.same⟩
theorem ko_below {W W' : World} (h : Below W.heap.size W W') : KeepsOthers W W' := ⟨h.size, fun k _ hk _ => (h.block k (Array.getElem?_eq_some_iff.1 hk).1).trans hk⟩

/-- An iterator's contract at the wide fence: what lay below n₀ is to be kept by the rounds. -/
def Iter {α : Type} (P : Program) (g : Nat) (lb : Array Value) (encs : α → Array Value) (n₀ : Nat) (S Sp : List α → Prop) (N : Nat) (w : World) : Prop :=
  SeqStopsK Fence.wide 8 P g lb encs (Below n₀) S Sp N w

/-- How a round's body may be left. -/
def rangePost {α : Type} (n₀ : Nat) (I : List α → World → Prop) (Ix : Code → List α → World → Prop) (xs : List α) (W : World) : Exit → Act → World → Prop
  | .normal, _, W' => KeepsOthers W W' ∧ Below n₀ W W' ∧ I xs W'
  | .ret, _, W' => KeepsOthers W W' ∧ Below n₀ W W' ∧ Ix .ret xs W'
  | .exit id, _, W' => KeepsOthers W W' ∧ Below n₀ W W' ∧ Ix (.exit id) xs W'
  | .goto t, _, W' => KeepsOthers W W' ∧ Below n₀ W W' ∧ Ix (.goto t) xs W'
  | .panic _, _, _ => False
  | .outgrown, _, _ => False

/-- 'for x := range it { body }', its variable unboxed: 'I' speaks of the caller's own boxes ('Held') and of whatever else is 'Own'; what lay below n₀ is as it was in w0. -/
theorem wp_range {α σ : Type} {g : Operand} {ps : Array Tmp} {assign body : Code} {Q : Exit → Act → World → Prop} {a : Act} {w w0 : World} {n₀ : Nat}
    {gf : Nat} {lb : Array Value} (hg : a.eval g = .func (.func gf) #[] lb) (eg : ∀ args w, (callFunc gf args).run P w = .ok (.enter gf args) w)
    {encs : α → Array Value} {S Sp : List α → Prop} {N : Nat} (hseq : Iter P gf lb encs n₀ S Sp N w) (hps : ∀ x, (encs x).size = ps.size)
    (hn : n₀ ≤ w0.heap.size) (hb : Below n₀ w0 w)
    (Inv : List α → σ → World → Prop) (hO : ∀ s, Own fun pre W => Inv pre s W)
    (Ix : Code → List α → σ → World → Prop) (hOx : ∀ c s, Own fun pre W => Ix c pre s W) (s0 : σ) (h0 : Inv [] s0 w) (a₁ : α → Act)
    (hassign : ∀ (l : Nat) (x : α) (W : World) (K : Act → World → Prop), K (a₁ x) W →
      assign.wpIn (Fence.wide.inRound l) 7 P (Exit.then K (fun _ _ _ => False)) { tmps := (ps.zip (encs x)).foldl (fun t (p, v) => t.setIfInBounds p v) a.tmps, defers := [] } W)
    (hbody : ∀ (l : Nat) (pre : List α) (x : α) (s : σ) (W : World), Inv pre s W → Below n₀ w0 W → w.heap.size ≤ W.heap.size → pre.length < N →
      body.wpIn (Fence.wide.inRound l) 7 P (rangePost n₀ (fun pre W => ∃ s, Inv pre s W) (fun c pre W => ∃ s, Ix c pre s W) (pre ++ [x]) W) (a₁ x) W)
    (hdone : ∀ (D : Nat) (xs : List α) (s : σ) (W : World), w.heap.size ≤ D → S xs → Inv xs s W → Below n₀ w0 W → W.heap[D]? = some (.deferred (some [])) → Q .normal { a with defers := { target := .collected D, args := #[] } :: a.defers } W)
    (hstop : ∀ (D : Nat) (c : Code) (pre : List α) (s : σ) (W : World), w.heap.size ≤ D → Sp pre → Ix c pre s W → Below n₀ w0 W → W.heap[D]? = some (.deferred (some [])) → c.wp P Q { a with defers := { target := .collected D, args := #[] } :: a.defers } W) :
    (Code.rangeFunc g ps assign body).wp P Q a w := by
  have hw : n₀ ≤ w.heap.size := Nat.le_trans hn hb.size
  have hOe : OwnFrom w.heap.size fun pre W => ∃ s, Inv pre s W := by
    intro pre W W' row ⟨s, hs⟩ hg hr
    exact ⟨s, hO s pre W W' row hs hg fun r e => (hr r e).2⟩
  have hOxe : ∀ c, OwnFrom w.heap.size fun pre W => ∃ s, Ix c pre s W := by
    intro c pre W W' row ⟨s, hs⟩ hg hr
    exact ⟨s, hOx c s pre W W' row hs hg fun r e => (hr r e).2⟩
  have hB : OwnFrom w.heap.size fun (_ : List α) W => Below n₀ w0 W ∧ w.heap.size ≤ W.heap.size := by
    intro pre W W' row ⟨h1, h2⟩ hg hr
    exact ⟨h1.grown hg (Nat.le_trans hw h2) fun k e => Nat.le_trans hw (hr k e).1, Nat.le_trans h2 hg.size⟩
  have h := wpIn_rangeFunc_ownF (F := Fence.wide) (n := 9) (P := P) (Q := Q) (a := a) (w := w) (assign := assign) (body := body) rfl (by omega) hg trivial eg hseq
    belowK_t (belowK_b hw) (Below.refl _ _) hps
    (fun pre W => (∃ s, Inv pre s W) ∧ (Below n₀ w0 W ∧ w.heap.size ≤ W.heap.size)) (fun c pre W => (∃ s, Ix c pre s W) ∧ (Below n₀ w0 W ∧ w.heap.size ≤ W.heap.size)) (OwnFrom.and hOe hB) (fun c => OwnFrom.and (hOxe c) hB)
    ⟨⟨s0, h0⟩, hb, Nat.le_refl _⟩ a₁ hassign
    (fun l pre x W ⟨⟨s, hs⟩, hb', hsz⟩ hl => by
      refine wpIn_mono (hbody l pre x s W hs hb' hsz hl) ?_
      intro e a' W' hp
      cases e with
      | normal => exact ⟨hp.1, hp.2.1, hp.2.2, hb'.trans hp.2.1, Nat.le_trans hsz hp.1.size⟩
      | ret => exact ⟨hp.1, hp.2.2, hb'.trans hp.2.1, Nat.le_trans hsz hp.1.size⟩
      | exit id => exact ⟨hp.1, hp.2.2, hb'.trans hp.2.1, Nat.le_trans hsz hp.1.size⟩
      | goto t => exact ⟨hp.1, hp.2.2, hb'.trans hp.2.1, Nat.le_trans hsz hp.1.size⟩
      | panic ch => exact hp
      | outgrown => exact hp)
    (fun D xs W hD hS ⟨⟨s, hs⟩, hb', _⟩ hK => hdone D xs s W hD hS hs hb' hK)
    (fun D c pre W hD hS ⟨⟨s, hs⟩, hb', _⟩ hK => wpIn_wide.2 (hstop D c pre s W hD hS hs hb' hK))
  exact wpIn_wide.1 h
end Go.Proofs.YtpncbkodhojicaaDoor

/- A range over a function that writes a box of its own between two rounds: its contract, and the law of such a loop. No premise of its own. -/
import Derived.Test.YtlmhgfgdkenpfaaDoorRange
namespace Go.Proofs.YtlmhgfgdkenpfaaDoor
open Go.RowKit Go.Shelf

/-- Cells of block n turned. -/
def Turns (n : Nat) (A B : World) : Prop := ∃ (i : Nat) (v : Value), n < A.heap.size ∧ B = A.setCell ⟨n, i, none⟩ v
theorem Turns.far {n k : Nat} {A B : World} (h : Turns n A B) (hk : k ≠ n) : B.heap[k]? = A.heap[k]? := by
  obtain ⟨i, v, _, rfl⟩ := h
  exact Below.heap_setCell A ⟨n, i, none⟩ v k hk
/-- What an iterator comes to that makes one block first, and writes it between two rounds. -/
def IterW {α : Type} (P : Program) (g : Nat) (lb : Array Value) (encs : α → Array Value) (Kp : Nat → World → World → Prop) (S Sp : List α → Prop) (N : Nat) (w : World) : Prop :=
  ∀ (l : Nat) (J Jx : List α → World → Prop) (W : World), Below w.heap.size w W → AbidesFrom W.heap.size J → AbidesFrom W.heap.size Jx →
    (∀ pre A B, J pre A → Turns W.heap.size A B → J pre B) → (∀ pre A B, Jx pre A → Turns W.heap.size A B → Jx pre B) →
    (∀ pre x W1, J pre W1 → W.heap.size < W1.heap.size → pre.length < N → YieldAt Fence.wide 7 P l (encs x) W1 fun e W' =>
      (e = .returned (.bool true) ∧ J (pre ++ [x]) W' ∧ Kp W.heap.size W1 W') ∨ (e = .returned (.bool false) ∧ Jx (pre ++ [x]) W')) →
    J [] W → CallsIn Fence.wide 8 P g (#[.func (.yield l) #[] #[]] ++ lb) W fun e W' => (∃ v, e = .returned v) ∧ ((∃ xs, S xs ∧ J xs W') ∨ (∃ pre, Sp pre ∧ Jx pre W'))
/-- A loop's record. -/
def lpR (fn : FuncId) (tmps : Array Value) (ps : Array Tmp) (assign body : Code) (d : Nat) (st : LoopState) (pe : Option Code) : Loop := { state := st, pending := pe, fn, tmps, params := ps, assign, body, defers := d }
section
variable {P : Program} {fn : FuncId} {tm : Array Value} {ps : Array Tmp} {assign body : Code} {d l : Nat} {W : World}
theorem lp_begin (h : W.heap[l]? = some (.loop (lpR fn tm ps assign body d .ready none))) : (Instr.beginRound l).run P W = .ok () (W.putObj l (.loop (lpR fn tm ps assign body d .busy none))) := run_beginRound h rfl
theorem lp_end (j : Option Code) (h : W.heap[l]? = some (.loop (lpR fn tm ps assign body d .busy none))) : (Instr.endRound l j).run P W = .ok (.bool j.isNone) (W.putObj l (.loop (lpR fn tm ps assign body d (if j.isNone then .ready else .done) j))) := run_endRound j h
theorem lp_over {st : LoopState} {pe : Option Code} (hs : st ≠ .busy) (h : W.heap[l]? = some (.loop (lpR fn tm ps assign body d st pe))) : (Instr.endLoop l).run P W = .ok pe (W.putObj l (.loop (lpR fn tm ps assign body d .exhausted pe))) := run_endLoop h hs
end
/-- What stands of a loop's two blocks. -/
structure TwoB (d : Nat) (r : Loop) (W : World) : Prop where
  lp : W.heap[d + 1]? = some (.loop r)
  df : W.heap[d]? = some (.deferred (some []))
theorem TwoB.lt {d : Nat} {r : Loop} {W : World} (h : TwoB d r W) : d + 1 < W.heap.size := (Array.getElem?_eq_some_iff.1 h.lp).1
theorem TwoB.put {d : Nat} {r r' : Loop} {W : World} (h : TwoB d r W) : TwoB d r' (W.putObj (d + 1) (.loop r')) := ⟨World.putObj_heap_same h.lt, (World.putObj_heap_other (by omega)).trans h.df⟩
theorem TwoB.from {d : Nat} {r : Loop} {W W' : World} (h : TwoB d r W) (hk : KeepsFrom d W W') : TwoB d r W' := ⟨hk.same _ _ (by omega) h.lp rfl, hk.same _ _ (Nat.le_refl _) h.df rfl⟩
theorem TwoB.turns {d : Nat} {r : Loop} {W W' : World} (h : TwoB d r W) (ht : Turns (d + 2) W W') : TwoB d r W' := ⟨(ht.far (by omega)).trans h.lp, (ht.far (by omega)).trans h.df⟩
theorem TwoB.grown {d : Nat} {r : Loop} {W W' : World} {row : Option Nat} (h : TwoB d r W) (hg : W.grownBy W' row) (hr : ∀ r, row = some r → ∃ o : Obj, W.heap[r]? = some o ∧ o.isWalk = true) : TwoB d r W' :=
  ⟨(grownBy_keeps hg hr h.lp rfl).trans h.lp, (grownBy_keeps hg hr h.df rfl).trans h.df⟩
theorem not_cells {B B' : Nat} {A : World} {row : Option Nat} (hB : B ≤ B') (h : ∀ r, row = some r → B' ≤ r ∧ ∃ o : Obj, A.heap[r]? = some o ∧ o.isWalk = true) : ∀ r, row = some r → B ≤ r ∧ ∃ o : Obj, A.heap[r]? = some o ∧ o.isCells = false := fun r e => by
  obtain ⟨h1, o, h2, h3⟩ := h r e
  exact ⟨by omega, o, h2, Obj.not_cells_of_walk h3⟩
/-- The law of a loop over such an iterator. -/
theorem wpIn_rangeFunc_W {α : Type} {P : Program} {g : Operand} {ps : Array Tmp} {assign body : Code} {Q : Exit → Act → World → Prop} {a : Act} {w : World}
    {gf : Nat} {lb : Array Value} (hg : a.eval g = .func (.func gf) #[] lb) (eg : ∀ args w, (callFunc gf args).run P w = .ok (.enter gf args) w)
    {encs : α → Array Value} {Kp : Nat → World → World → Prop} {S Sp : List α → Prop} {N : Nat} {w0 : World} (hseq : IterW P gf lb encs Kp S Sp N w0)
    (hKt : ∀ {A B C : World}, Kp (w.heap.size + 2) A B → Kp (w.heap.size + 2) B C → Kp (w.heap.size + 2) A C) (hKb : ∀ (W : World) (l : Nat) (o o' : Obj), w.heap.size ≤ l → W.heap[l]? = some o → o.isCells = false → o.isWalk = false → Kp (w.heap.size + 2) W (W.putObj l o'))
    (hb0 : Below w0.heap.size w0 w) (hps : ∀ x, (encs x).size = ps.size)
    (I : List α → World → Prop) (Ix : Code → List α → World → Prop) (hI : OwnFrom w.heap.size I) (hIx : ∀ c, OwnFrom w.heap.size (Ix c))
    (hIt : ∀ pre A B, I pre A → Turns (w.heap.size + 2) A B → I pre B) (hIxt : ∀ c pre A B, Ix c pre A → Turns (w.heap.size + 2) A B → Ix c pre B) (h0 : I [] w)
    (Ax : α → Act → World → Prop) (hAx : ∀ x a', OwnFrom w.heap.size (fun (_ : Unit) W => Ax x a' W))
    (hassign : ∀ (l : Nat) (pre : List α) (x : α) (W : World) (K : Act → World → Prop), I pre W → w.heap.size + 2 < W.heap.size → (∀ a' W', KeepsFrom w.heap.size W W' → Kp (w.heap.size + 2) W W' → I pre W' → Ax x a' W' → K a' W') →
      assign.wpIn (Fence.wide.inRound l) 7 P (Exit.then K (fun _ _ _ => False)) { tmps := (ps.zip (encs x)).foldl (fun t (p, v) => t.setIfInBounds p v) a.tmps, defers := [] } W)
    (hbody : ∀ (l : Nat) (pre : List α) (x : α) (a' : Act) (W : World), I pre W → w.heap.size + 2 < W.heap.size → Ax x a' W → pre.length < N → body.wpIn (Fence.wide.inRound l) 7 P (ownPostG w.heap.size (Kp (w.heap.size + 2)) I Ix (pre ++ [x]) W) a' W)
    (hdone : ∀ (D : Nat) (xs : List α) (W : World), w.heap.size ≤ D → S xs → I xs W → W.heap[D]? = some (.deferred (some [])) → Q .normal { a with defers := { target := .collected D, args := #[] } :: a.defers } W)
    (hstop : ∀ (D : Nat) (c : Code) (pre : List α) (W : World), w.heap.size ≤ D → Sp pre → Ix c pre W → W.heap[D]? = some (.deferred (some [])) → c.wpIn Fence.wide 9 P Q { a with defers := { target := .collected D, args := #[] } :: a.defers } W) :
    (Code.rangeFunc g ps assign body).wpIn Fence.wide 9 P Q a w := by
  refine wpIn_rangeFunc fun fn hfn => ?_
  have hz1 : ((w.alloc (.deferred (some []))).alloc (.loop (lpR fn a.tmps ps assign body w.heap.size .ready none))).heap.size = w.heap.size + 2 := by simp
  have hT1 : TwoB w.heap.size (lpR fn a.tmps ps assign body w.heap.size .ready none) ((w.alloc (.deferred (some []))).alloc (.loop (lpR fn a.tmps ps assign body w.heap.size .ready none))) :=
    ⟨by have h := World.alloc_heap_new (w.alloc (.deferred (some []))) (.loop (lpR fn a.tmps ps assign body w.heap.size .ready none)); rwa [World.size_alloc] at h, (Below.heap_alloc _ _ _ (by simp)).trans (World.alloc_heap_new w _)⟩
  have hI1 : I [] ((w.alloc (.deferred (some []))).alloc (.loop (lpR fn a.tmps ps assign body w.heap.size .ready none))) := hI.alloc _ (hI.alloc _ h0)
  have hb1 : Below w0.heap.size w0 ((w.alloc (.deferred (some []))).alloc (.loop (lpR fn a.tmps ps assign body w.heap.size .ready none))) :=
    hb0.trans ((((Below.refl _ w).alloc (Nat.le_refl _) _).alloc (by simp) _).mono hb0.size)
  have hrun : (Instr.enterLoop fn a.tmps ps assign body Fence.wide.round).run P w = .ok (w.heap.size + 1, [{ target := .collected w.heap.size, args := #[] }]) ((w.alloc (.deferred (some []))).alloc (.loop (lpR fn a.tmps ps assign body w.heap.size .ready none))) := run_enterLoop_outer _ _ _ _ _
  generalize ((w.alloc (.deferred (some []))).alloc (.loop (lpR fn a.tmps ps assign body w.heap.size .ready none))) = W1 at *
  refine ⟨w.heap.size + 1, [{ target := .collected w.heap.size, args := #[] }], W1, { target := .fn (.func gf) lb, args := #[.func (.yield (w.heap.size + 1)) #[] #[]] }, W1, gf, #[.func (.yield (w.heap.size + 1)) #[] #[]] ++ lb, W1, hrun, ?_, fun _ _ => trivial, ?_, fun _ => (by omega), ?_⟩
  · simp only [resolve, hg]
    simp [go_sem]
  · simp [invoke, go_sem, eg]
  · have key := hseq (w.heap.size + 1)
      (fun pre W => I pre W ∧ TwoB w.heap.size (lpR fn a.tmps ps assign body w.heap.size .ready none) W)
      (fun pre W => ∃ c, Ix c pre W ∧ TwoB w.heap.size (lpR fn a.tmps ps assign body w.heap.size .done (some c)) W) W1 hb1
      (fun s A B row hs hgr hr => ⟨hI s A B row hs.1 hgr (not_cells (by omega) hr), hs.2.grown hgr (fun r e => (hr r e).2)⟩)
      (fun s A B row ⟨c, hc, ht⟩ hgr hr => ⟨c, hIx c s A B row hc hgr (not_cells (by omega) hr), ht.grown hgr (fun r e => (hr r e).2)⟩)
      (fun pre A B hs ht => by rw [hz1] at ht; exact ⟨hIt pre A B hs.1 ht, hs.2.turns ht⟩)
      (fun pre A B ⟨c, hc, h2⟩ ht => by rw [hz1] at ht; exact ⟨c, hIxt c pre A B hc ht, h2.turns ht⟩)
      ?_ ⟨hI1, hT1⟩
    · refine key.mono ?_
      rintro e W2 ⟨⟨v, rfl⟩, ⟨xs, hS, hi, ht⟩ | ⟨pre, hSp, c, hi, ht⟩⟩
      · exact ⟨none, _, lp_over (by simp) ht.lp, hdone _ xs _ (Nat.le_refl _) hS (hI.putObj _ hi (by omega) ht.lp rfl) ((World.putObj_heap_other (by omega)).trans ht.df)⟩
      · exact ⟨some c, _, lp_over (by simp) ht.lp, hstop _ c pre _ (Nat.le_refl _) hSp ((hIx c).putObj _ hi (by omega) ht.lp rfl) ((World.putObj_heap_other (by omega)).trans ht.df)⟩
    · rintro pre x W ⟨hi, ht⟩ hsz hlen
      rw [hz1] at hsz ⊢
      refine ⟨fn, _, assign, body, run_yield ht.lp (hps x), roundIn_of_wpIn hfn (hassign _ pre x W _ hi hsz fun a' Wa hkf hka hia hax => ?_)⟩
      have hta := ht.from hkf
      have hl2 := hta.lt
      refine ⟨_, lp_begin hta.lp, ?_⟩
      have htb : TwoB w.heap.size (lpR fn a.tmps ps assign body w.heap.size .busy none) (Wa.putObj (w.heap.size + 1) (.loop (lpR fn a.tmps ps assign body w.heap.size .busy none))) := hta.put
      have hkb : Kp (w.heap.size + 2) Wa (Wa.putObj (w.heap.size + 1) (.loop (lpR fn a.tmps ps assign body w.heap.size .busy none))) := hKb _ _ _ _ (by omega) hta.lp rfl rfl
      have hib : I pre (Wa.putObj (w.heap.size + 1) (.loop (lpR fn a.tmps ps assign body w.heap.size .busy none))) := hI.putObj _ hia (by omega) hta.lp rfl
      have hab : Ax x a' (Wa.putObj (w.heap.size + 1) (.loop (lpR fn a.tmps ps assign body w.heap.size .busy none))) := (hAx x a').putObj (s := ()) _ hax (by omega) hta.lp rfl
      have hsb : w.heap.size + 2 < (Wa.putObj (w.heap.size + 1) (.loop (lpR fn a.tmps ps assign body w.heap.size .busy none))).heap.size := Nat.lt_of_lt_of_le hsz (Nat.le_trans hkf.size (grownBy_putObj' Wa _ _).size)
      refine wpIn_mono (hbody _ pre x a' _ hib hsb hab hlen) ?_
      rintro e a3 W3 hp
      cases e with
      | normal =>
        obtain ⟨hk3, hkp3, hi3⟩ := hp
        have ht3 := htb.from hk3
        exact ⟨_, _, lp_end none ht3.lp, .inl ⟨rfl, ⟨hI.putObj _ hi3 (by omega) ht3.lp rfl, ht3.put⟩, hKt hka (hKt (hKt hkb hkp3) (hKb _ _ _ _ (by omega) ht3.lp rfl rfl))⟩⟩
      | ret =>
        obtain ⟨hk3, hi3⟩ := hp
        have ht3 := htb.from hk3
        exact ⟨_, _, lp_end (some .ret) ht3.lp, .inr ⟨rfl, .ret, (hIx _).putObj _ hi3 (by omega) ht3.lp rfl, ht3.put⟩⟩
      | exit id =>
        obtain ⟨hk3, hi3⟩ := hp
        have ht3 := htb.from hk3
        exact ⟨_, _, lp_end (some (.exit id)) ht3.lp, .inr ⟨rfl, .exit id, (hIx _).putObj _ hi3 (by omega) ht3.lp rfl, ht3.put⟩⟩
      | goto t =>
        obtain ⟨hk3, hi3⟩ := hp
        have ht3 := htb.from hk3
        exact ⟨_, _, lp_end (some (.goto t)) ht3.lp, .inr ⟨rfl, .goto t, (hIx _).putObj _ hi3 (by omega) ht3.lp rfl, ht3.put⟩⟩
      | panic ch => exact hp.elim
      | outgrown => exact hp.elim
end Go.Proofs.YtlmhgfgdkenpfaaDoor

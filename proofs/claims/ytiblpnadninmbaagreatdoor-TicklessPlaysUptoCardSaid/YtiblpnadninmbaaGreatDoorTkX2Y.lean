/- A range over a function whose contract tells the body what it may be handed: its contract, and the law of such a loop. No premise of its own. -/
import Derived.Test.YtiblpnadninmbaaGreatDoorRange
import Derived.Test.YtiblpnadninmbaaGreatDoorTkX1Y
import Derived.Test.YtiblpnadninmbaaGreatDoorKeepLW
import Derived.Test.YtiblpnadninmbaaGreatDoorRound
import Derived.Test.YtiblpnadninmbaaGreatDoorWhKY
import Derived.Sort.CutIn
import Derived.Test.YtiblpnadninmbaaGreatDoorTmXY
namespace Go.Proofs.YtiblpnadninmbaaGreatDoor
open Go.RowKit Go.Shelf

/-- What an iterator comes to that tells of each round what it may be handed (G). -/
def IterG {α : Type} (P : Program) (g : Nat) (lb : Array Value) (encs : α → Array Value) (Kp : World → World → Prop) (S Sp : List α → Prop) (G : List α → α → Prop) (w : World) : Prop :=
  ∀ (l : Nat) (J Jx : List α → World → Prop) (W : World), Below w.heap.size w W → AbidesFrom W.heap.size J → AbidesFrom W.heap.size Jx →
    (∀ pre x W1, J pre W1 → G pre x → YieldAt Fence.wide 7 P l (encs x) W1 fun e W' =>
      (e = .returned (.bool true) ∧ J (pre ++ [x]) W' ∧ Kp W1 W') ∨ (e = .returned (.bool false) ∧ Jx (pre ++ [x]) W')) →
    J [] W → CallsIn Fence.wide 8 P g (#[.func (.yield l) #[] #[]] ++ lb) W fun e W' => (∃ v, e = .returned v) ∧ ((∃ xs, S xs ∧ J xs W') ∨ (∃ pre, Sp pre ∧ Jx pre W'))
/-- A loop's record. -/
def lpG (fn : FuncId) (tmps : Array Value) (ps : Array Tmp) (assign body : Code) (d : Nat) (st : LoopState) (pe : Option Code) : Loop := { state := st, pending := pe, fn, tmps, params := ps, assign, body, defers := d }
section
variable {P : Program} {fn : FuncId} {tm : Array Value} {ps : Array Tmp} {assign body : Code} {d l : Nat} {W : World}
theorem lpg_begin (h : W.heap[l]? = some (.loop (lpG fn tm ps assign body d .ready none))) : (Instr.beginRound l).run P W = .ok () (W.putObj l (.loop (lpG fn tm ps assign body d .busy none))) := run_beginRound h rfl
theorem lpg_end (j : Option Code) (h : W.heap[l]? = some (.loop (lpG fn tm ps assign body d .busy none))) : (Instr.endRound l j).run P W = .ok (.bool j.isNone) (W.putObj l (.loop (lpG fn tm ps assign body d (if j.isNone then .ready else .done) j))) := run_endRound j h
theorem lpg_over {st : LoopState} {pe : Option Code} (hs : st ≠ .busy) (h : W.heap[l]? = some (.loop (lpG fn tm ps assign body d st pe))) : (Instr.endLoop l).run P W = .ok pe (W.putObj l (.loop (lpG fn tm ps assign body d .exhausted pe))) := run_endLoop h hs
end
/-- What stands of a loop's two blocks. -/
structure TwoG (d : Nat) (r : Loop) (W : World) : Prop where
  lp : W.heap[d + 1]? = some (.loop r)
  df : W.heap[d]? = some (.deferred (some []))
theorem TwoG.lt {d : Nat} {r : Loop} {W : World} (h : TwoG d r W) : d + 1 < W.heap.size := (Array.getElem?_eq_some_iff.1 h.lp).1
theorem TwoG.put {d : Nat} {r r' : Loop} {W : World} (h : TwoG d r W) : TwoG d r' (W.putObj (d + 1) (.loop r')) := ⟨World.putObj_heap_same h.lt, (World.putObj_heap_other (by omega)).trans h.df⟩
theorem TwoG.from {d : Nat} {r : Loop} {W W' : World} (h : TwoG d r W) (hk : KeepsFrom d W W') : TwoG d r W' := ⟨hk.same _ _ (by omega) h.lp rfl, hk.same _ _ (Nat.le_refl _) h.df rfl⟩
theorem TwoG.grown {d : Nat} {r : Loop} {W W' : World} {row : Option Nat} (h : TwoG d r W) (hg : W.grownBy W' row) (hr : ∀ r, row = some r → ∃ o : Obj, W.heap[r]? = some o ∧ o.isWalk = true) : TwoG d r W' :=
  ⟨(grownBy_keeps hg hr h.lp rfl).trans h.lp, (grownBy_keeps hg hr h.df rfl).trans h.df⟩
theorem not_cellsG {B B' : Nat} {A : World} {row : Option Nat} (hB : B ≤ B') (h : ∀ r, row = some r → B' ≤ r ∧ ∃ o : Obj, A.heap[r]? = some o ∧ o.isWalk = true) : ∀ r, row = some r → B ≤ r ∧ ∃ o : Obj, A.heap[r]? = some o ∧ o.isCells = false := fun r e => by
  obtain ⟨h1, o, h2, h3⟩ := h r e
  exact ⟨by omega, o, h2, Obj.not_cells_of_walk h3⟩
/-- The law of a loop over such an iterator. -/
theorem wpIn_rangeFunc_G {α : Type} {P : Program} {g : Operand} {ps : Array Tmp} {assign body : Code} {Q : Exit → Act → World → Prop} {a : Act} {w : World}
    {gf : Nat} {lb : Array Value} (hg : a.eval g = .func (.func gf) #[] lb) (eg : ∀ args w, (callFunc gf args).run P w = .ok (.enter gf args) w)
    {encs : α → Array Value} {Kp : World → World → Prop} {S Sp : List α → Prop} {G : List α → α → Prop} {w0 : World} (hseq : IterG P gf lb encs Kp S Sp G w0)
    (hKt : ∀ {A B C : World}, Kp A B → Kp B C → Kp A C) (hKb : ∀ (W : World) (l : Nat) (o o' : Obj), w.heap.size ≤ l → W.heap[l]? = some o → o.isCells = false → o.isWalk = false → Kp W (W.putObj l o'))
    (hb0 : Below w0.heap.size w0 w) (hps : ∀ x, (encs x).size = ps.size)
    (I : List α → World → Prop) (Ix : Code → List α → World → Prop) (hI : OwnFrom w.heap.size I) (hIx : ∀ c, OwnFrom w.heap.size (Ix c))
    (h0 : I [] w)
    (Ax : α → Act → World → Prop) (hAx : ∀ x a', OwnFrom w.heap.size (fun (_ : Unit) W => Ax x a' W))
    (hassign : ∀ (l : Nat) (pre : List α) (x : α) (W : World) (K : Act → World → Prop), I pre W → (∀ a' W', KeepsFrom w.heap.size W W' → Kp W W' → I pre W' → Ax x a' W' → K a' W') →
      assign.wpIn (Fence.wide.inRound l) 7 P (Exit.then K (fun _ _ _ => False)) { tmps := (ps.zip (encs x)).foldl (fun t (p, v) => t.setIfInBounds p v) a.tmps, defers := [] } W)
    (hbody : ∀ (l : Nat) (pre : List α) (x : α) (a' : Act) (W : World), I pre W → Ax x a' W → G pre x → body.wpIn (Fence.wide.inRound l) 7 P (ownPostG w.heap.size Kp I Ix (pre ++ [x]) W) a' W)
    (hdone : ∀ (D : Nat) (xs : List α) (W : World), w.heap.size ≤ D → S xs → I xs W → W.heap[D]? = some (.deferred (some [])) → Q .normal { a with defers := { target := .collected D, args := #[] } :: a.defers } W)
    (hstop : ∀ (D : Nat) (c : Code) (pre : List α) (W : World), w.heap.size ≤ D → Sp pre → Ix c pre W → W.heap[D]? = some (.deferred (some [])) → c.wpIn Fence.wide 9 P Q { a with defers := { target := .collected D, args := #[] } :: a.defers } W) :
    (Code.rangeFunc g ps assign body).wpIn Fence.wide 9 P Q a w := by
  refine wpIn_rangeFunc fun fn hfn => ?_
  have hz1 : ((w.alloc (.deferred (some []))).alloc (.loop (lpG fn a.tmps ps assign body w.heap.size .ready none))).heap.size = w.heap.size + 2 := by simp
  have hT1 : TwoG w.heap.size (lpG fn a.tmps ps assign body w.heap.size .ready none) ((w.alloc (.deferred (some []))).alloc (.loop (lpG fn a.tmps ps assign body w.heap.size .ready none))) :=
    ⟨by have h := World.alloc_heap_new (w.alloc (.deferred (some []))) (.loop (lpG fn a.tmps ps assign body w.heap.size .ready none)); rwa [World.size_alloc] at h, (Below.heap_alloc _ _ _ (by simp)).trans (World.alloc_heap_new w _)⟩
  have hI1 : I [] ((w.alloc (.deferred (some []))).alloc (.loop (lpG fn a.tmps ps assign body w.heap.size .ready none))) := hI.alloc _ (hI.alloc _ h0)
  have hb1 : Below w0.heap.size w0 ((w.alloc (.deferred (some []))).alloc (.loop (lpG fn a.tmps ps assign body w.heap.size .ready none))) :=
    hb0.trans ((((Below.refl _ w).alloc (Nat.le_refl _) _).alloc (by simp) _).mono hb0.size)
  have hrun : (Instr.enterLoop fn a.tmps ps assign body Fence.wide.round).run P w = .ok (w.heap.size + 1, [{ target := .collected w.heap.size, args := #[] }]) ((w.alloc (.deferred (some []))).alloc (.loop (lpG fn a.tmps ps assign body w.heap.size .ready none))) := run_enterLoop_outer _ _ _ _ _
  generalize ((w.alloc (.deferred (some []))).alloc (.loop (lpG fn a.tmps ps assign body w.heap.size .ready none))) = W1 at *
  refine ⟨w.heap.size + 1, [{ target := .collected w.heap.size, args := #[] }], W1, { target := .fn (.func gf) lb, args := #[.func (.yield (w.heap.size + 1)) #[] #[]] }, W1, gf, #[.func (.yield (w.heap.size + 1)) #[] #[]] ++ lb, W1, hrun, ?_, fun _ _ => trivial, ?_, fun _ => (by omega), ?_⟩
  · simp only [resolve, hg]
    simp [go_sem]
  · simp [invoke, go_sem, eg]
  · have key := hseq (w.heap.size + 1)
      (fun pre W => I pre W ∧ TwoG w.heap.size (lpG fn a.tmps ps assign body w.heap.size .ready none) W)
      (fun pre W => ∃ c, Ix c pre W ∧ TwoG w.heap.size (lpG fn a.tmps ps assign body w.heap.size .done (some c)) W) W1 hb1
      (fun s A B row hs hgr hr => ⟨hI s A B row hs.1 hgr (not_cellsG (by omega) hr), hs.2.grown hgr (fun r e => (hr r e).2)⟩)
      (fun s A B row ⟨c, hc, ht⟩ hgr hr => ⟨c, hIx c s A B row hc hgr (not_cellsG (by omega) hr), ht.grown hgr (fun r e => (hr r e).2)⟩)
      ?_ ⟨hI1, hT1⟩
    · refine key.mono ?_
      rintro e W2 ⟨⟨v, rfl⟩, ⟨xs, hS, hi, ht⟩ | ⟨pre, hSp, c, hi, ht⟩⟩
      · exact ⟨none, _, lpg_over (by simp) ht.lp, hdone _ xs _ (Nat.le_refl _) hS (hI.putObj _ hi (by omega) ht.lp rfl) ((World.putObj_heap_other (by omega)).trans ht.df)⟩
      · exact ⟨some c, _, lpg_over (by simp) ht.lp, hstop _ c pre _ (Nat.le_refl _) hSp ((hIx c).putObj _ hi (by omega) ht.lp rfl) ((World.putObj_heap_other (by omega)).trans ht.df)⟩
    · rintro pre x W ⟨hi, ht⟩ hlen
      refine ⟨fn, _, assign, body, run_yield ht.lp (hps x), roundIn_of_wpIn hfn (hassign _ pre x W _ hi fun a' Wa hkf hka hia hax => ?_)⟩
      have hta := ht.from hkf
      have hl2 := hta.lt
      refine ⟨_, lpg_begin hta.lp, ?_⟩
      have htb : TwoG w.heap.size (lpG fn a.tmps ps assign body w.heap.size .busy none) (Wa.putObj (w.heap.size + 1) (.loop (lpG fn a.tmps ps assign body w.heap.size .busy none))) := hta.put
      have hkb : Kp Wa (Wa.putObj (w.heap.size + 1) (.loop (lpG fn a.tmps ps assign body w.heap.size .busy none))) := hKb _ _ _ _ (by omega) hta.lp rfl rfl
      have hib : I pre (Wa.putObj (w.heap.size + 1) (.loop (lpG fn a.tmps ps assign body w.heap.size .busy none))) := hI.putObj _ hia (by omega) hta.lp rfl
      have hab : Ax x a' (Wa.putObj (w.heap.size + 1) (.loop (lpG fn a.tmps ps assign body w.heap.size .busy none))) := (hAx x a').putObj (s := ()) _ hax (by omega) hta.lp rfl
      refine wpIn_mono (hbody _ pre x a' _ hib hab hlen) ?_
      rintro e a3 W3 hp
      cases e with
      | normal =>
        obtain ⟨hk3, hkp3, hi3⟩ := hp
        have ht3 := htb.from hk3
        exact ⟨_, _, lpg_end none ht3.lp, .inl ⟨rfl, ⟨hI.putObj _ hi3 (by omega) ht3.lp rfl, ht3.put⟩, hKt hka (hKt (hKt hkb hkp3) (hKb _ _ _ _ (by omega) ht3.lp rfl rfl))⟩⟩
      | ret =>
        obtain ⟨hk3, hi3⟩ := hp
        have ht3 := htb.from hk3
        exact ⟨_, _, lpg_end (some .ret) ht3.lp, .inr ⟨rfl, .ret, (hIx _).putObj _ hi3 (by omega) ht3.lp rfl, ht3.put⟩⟩
      | exit id =>
        obtain ⟨hk3, hi3⟩ := hp
        have ht3 := htb.from hk3
        exact ⟨_, _, lpg_end (some (.exit id)) ht3.lp, .inr ⟨rfl, .exit id, (hIx _).putObj _ hi3 (by omega) ht3.lp rfl, ht3.put⟩⟩
      | goto t =>
        obtain ⟨hk3, hi3⟩ := hp
        have ht3 := htb.from hk3
        exact ⟨_, _, lpg_end (some (.goto t)) ht3.lp, .inr ⟨rfl, .goto t, (hIx _).putObj _ hi3 (by omega) ht3.lp rfl, ht3.put⟩⟩
      | panic ch => exact hp.elim
      | outgrown => exact hp.elim
end Go.Proofs.YtiblpnadninmbaaGreatDoor
/- Package clock: the walks of parts and Step. Conditions: times that may be. -/
namespace Go.Proofs.YtiblpnadninmbaaGreatDoor
open Go.RowKit Go.Shelf
attribute [local go_sem] Oper.semAt_some
def sumK : List Int → Int
  | [] => 0
  | x :: l => x + sumK l
theorem sumK_snoc (l : List Int) (x : Int) : sumK (l ++ [x]) = sumK l + x := by
  induction l with
  | nil => simp [sumK]
  | cons y l ih =>
    show y + sumK (l ++ [x]) = y + sumK l + x
    rw [ih]; omega
theorem cparts_any (n : Int) (w : World) :
    Calls Tryz.prog 47 #[.int .i64 n] w fun e w' =>
      e = .returned (.func (.func 72) #[] #[.pointer (some ⟨w.heap.size, 0, none⟩)]) ∧ w.alloc (.cells #[.int .i64 n] 2) = w' := by
  go_enter Tryz.func47, Tryz.ntmps47
  go_wp2
  go_ret
  exact ⟨by simp, rfl⟩
set_option maxHeartbeats 4000000 in
set_option maxRecDepth 100000 in
/-- What parts hands back: numbers that come to n together, each as far as a clock may go. -/
theorem cparts_iter (n : Int) (b1 : Nat) (w : World) (hn : 0 ≤ n) (hn2 : n ≤ 4503599627370496) (hb1 : w.heap[b1]? = some (.cells #[.int .i64 n] 2 (0, 0))) :
    IterG Tryz.prog 72 #[.pointer (some ⟨b1, 0, none⟩)] (fun k : Int => #[.int .u32 k]) (fun _ _ => True) (fun xs => sumK xs = n) (fun _ => True)
      (fun pre k => 0 < k ∧ k ≤ 1073741824 ∧ sumK pre + k ≤ n) w := fun ll J Jx W hW hJ hJx hY hJ0 => by
  have H1 := Lib.hid (box_keep hb1 hW)
  have HY := Lib.hid hY; have HJ0 := Lib.hid hJ0
  clear hb1 hW hJ hJx hY hJ0
  obtain ⟨hmx, hmy⟩ := box_rules H1.out
  refine callsIn_of_wp Tryz.func72 rfl trivial ?_ rfl
  simp only [Tryz.ntmps72, List.size_toArray, List.length_cons, List.length_nil, Nat.reduceAdd, Nat.reduceSub, Array.replicate_succ, Array.replicate_zero, List.push_toArray, List.append_toArray, List.nil_append, List.cons_append]
  gi_wp2
  gi_loopw [3] (fun v wr => ∃ (pre : List Int) (u : Int), v = .int .i64 u ∧ Hid (u = n - sumK pre) ∧ 0 ≤ u ∧ u ≤ n ∧ Hid (J pre wr)) (fun v _ => (intOf v).toNat)
  case atStart => exact ⟨[], n, rfl, Lib.hid (by simp [sumK]), hn, Int.le_refl _, HJ0⟩
  case round =>
    obtain ⟨pre, u, rfl, HU, hu0, hu1, Hj⟩ := hrel
    by_cases hz : 0 < u
    · by_cases hm : 1073741824 < u
      · have HG : Hid (0 < (1073741824 : Int) ∧ (1073741824 : Int) ≤ 1073741824 ∧ sumK pre + 1073741824 ≤ n) := Lib.hid ⟨by omega, by omega, by have := HU.out; omega⟩
        obtain ⟨fn, tmps, assign, body, hy, hR⟩ := HY.out pre 1073741824 wr Hj.out HG.out
        have HR := Lib.hid hR
        have hkw : (1073741824 : Int) % 4294967296 = 1073741824 := by omega
        have hs : wrap64 (u - 1073741824) = u - 1073741824 := Go.IntWalk.wrap64_in _ (by omega)
        clear hR
        gi_wp2
        all_goals
          refine HR.out.mono ?_
          rintro e W3 (⟨rfl, hJ4, hk4⟩ | ⟨rfl, hJx4⟩)
          · have HJ4 := Lib.hid hJ4
            clear hJ4 hk4
            gi_wp2
            go_roundw
            case rel => exact ⟨pre ++ [1073741824], u - 1073741824, by first | rfl | simp, Lib.hid (by rw [sumK_snoc]; have := HU.out; omega), by omega, by omega, HJ4⟩
            case measure => simp [intOf]; omega
          · have HJ4 := Lib.hid hJx4
            clear hJx4
            gi_wp2
            refine bodyPost_ret (results_none rfl _ _ _) rfl ?_
            exact ⟨⟨_, rfl⟩, .inr ⟨pre ++ [1073741824], trivial, HJ4.out⟩⟩
      · have HG : Hid (0 < (u : Int) ∧ (u : Int) ≤ 1073741824 ∧ sumK pre + u ≤ n) := Lib.hid ⟨by omega, by omega, by have := HU.out; omega⟩
        obtain ⟨fn, tmps, assign, body, hy, hR⟩ := HY.out pre u wr Hj.out HG.out
        have HR := Lib.hid hR
        have hkw : (u : Int) % 4294967296 = u := by omega
        have hs : wrap64 (u - u) = u - u := Go.IntWalk.wrap64_in _ (by omega)
        clear hR
        gi_wp2
        all_goals
          refine HR.out.mono ?_
          rintro e W3 (⟨rfl, hJ4, hk4⟩ | ⟨rfl, hJx4⟩)
          · have HJ4 := Lib.hid hJ4
            clear hJ4 hk4
            gi_wp2
            go_roundw
            case rel => exact ⟨pre ++ [u], u - u, by first | rfl | simp, Lib.hid (by rw [sumK_snoc]; have := HU.out; omega), by omega, by omega, HJ4⟩
            case measure => simp [intOf]; omega
          · have HJ4 := Lib.hid hJx4
            clear hJx4
            gi_wp2
            refine bodyPost_ret (results_none rfl _ _ _) rfl ?_
            exact ⟨⟨_, rfl⟩, .inr ⟨pre ++ [u], trivial, HJ4.out⟩⟩
    · gi_wp2
      go_end0
      exact ⟨⟨_, rfl⟩, .inl ⟨pre, by have := HU.out; omega, Hj.out⟩⟩
/-- The timer of the hardware behind n cycles. -/
def stM (t b : Int) (m : Bool) (n : Int) : Bool := m && !decide (aheadN (t % 4294967296) b + 1 ≤ n)
def stL (t b : Int) (m l : Bool) (n : Int) : Bool := l || (m && decide (aheadN (t % 4294967296) b + 1 ≤ n))
theorem st_zero (t b : Int) (m l : Bool) : stM t b m 0 = m ∧ stL t b m l 0 = l := by
  unfold stM stL
  rw [decide_eq_false (by unfold aheadN; omega)]
  cases m <;> cases l <;> exact ⟨rfl, rfl⟩
theorem st_arith {t b s : Int} (h1 : ¬ aheadN (t % 4294967296) b + 1 ≤ s) (hs : 0 ≤ s) : aheadN ((t + s) % 4294967296) b = aheadN (t % 4294967296) b - s := by
  unfold aheadN at *
  omega
theorem st_step (t b : Int) (m l : Bool) (s k : Int) (hs : 0 ≤ s) (hk : 0 < k) :
    (stM t b m s && !hits ((t + s) % 4294967296) b (stM t b m s) k) = stM t b m (s + k) ∧ (stL t b m l s || hits ((t + s) % 4294967296) b (stM t b m s) k) = stL t b m l (s + k) := by
  unfold stM stL hits
  cases m
  · simp
  · by_cases h : aheadN (t % 4294967296) b + 1 ≤ s
    · rw [decide_eq_true h, decide_eq_true (show aheadN (t % 4294967296) b + 1 ≤ s + k by omega)]
      simp
    · rw [decide_eq_false h, st_arith h hs, decide_eq_true hk]
      by_cases h2 : aheadN (t % 4294967296) b + 1 ≤ s + k
      · rw [decide_eq_true h2, decide_eq_true (show aheadN (t % 4294967296) b - s < k by omega)]
        simp
      · rw [decide_eq_false h2, decide_eq_false (show ¬ aheadN (t % 4294967296) b - s < k by omega)]
        simp
theorem st_mod (t s k : Int) : ((t + s) % 4294967296 + k) % 4294967296 = (t + (s + k)) % 4294967296 := by omega
theorem name_worldI {F : Fence} {n : Nat} {P : Program} {c : Code} {Q : Exit → Act → World → Prop} {a : Act} {w : World} (h : ∀ W, W = w → c.wpIn F n P Q a W) : c.wpIn F n P Q a w := h w rfl
theorem set45 {U : World} {b : Nat} {t : TypeId} {c0 c1 c2 c3 c4 : Value} (h : U.heap[b]? = some (.cells #[c0, c1, c2, c3, c4] t (0, 0))) (v0 v1 v2 v3 : Value) :
    ((((U.setCell ⟨b, 0, none⟩ v0).setCell ⟨b, 1, none⟩ v1).setCell ⟨b, 2, none⟩ v2).setCell ⟨b, 3, none⟩ v3).heap[b]? = some (.cells #[v0, v1, v2, v3, c4] t (0, 0)) ∧
    Tn [b] U ((((U.setCell ⟨b, 0, none⟩ v0).setCell ⟨b, 1, none⟩ v1).setCell ⟨b, 2, none⟩ v2).setCell ⟨b, 3, none⟩ v3) := by
  have hm : b ∈ [b] := by simp
  exact ⟨box_set (i := 3) (box_set (i := 2) (box_set (i := 1) (box_set (i := 0) h v0) v1) v2) v3, ((((Tn.refl _ _).setCell (p := ⟨b, 0, none⟩) hm _).setCell (p := ⟨b, 1, none⟩) hm _).setCell (p := ⟨b, 2, none⟩) hm _).setCell (p := ⟨b, 3, none⟩) hm _⟩
theorem ko_set4 {W U : World} (h : KeepsOthers W U) {b : Nat} (v0 v1 v2 v3 : Value) : KeepsOthers W ((((U.setCell ⟨b, 0, none⟩ v0).setCell ⟨b, 1, none⟩ v1).setCell ⟨b, 2, none⟩ v2).setCell ⟨b, 3, none⟩ v3) := ko_set (ko_set (ko_set (ko_set h _ _) _ _) _ _) _ _
theorem ko_set5 {W U : World} (h : KeepsOthers W U) {b : Nat} (v0 v1 v2 v3 v4 : Value) : KeepsOthers W (((((U.setCell ⟨b, 0, none⟩ v0).setCell ⟨b, 1, none⟩ v1).setCell ⟨b, 2, none⟩ v2).setCell ⟨b, 3, none⟩ v3).setCell ⟨b, 4, none⟩ v4) := ko_set (ko_set4 h _ _ _ _) _ _
/-- Step's boxes: the clock, the result. -/
structure StI (w0 : World) (s : Nat) (t b : Int) (m l : Bool) (pre : List Int) (W : World) : Prop where
  c : W.heap[s]? = some (.cells #[.int .u32 ((t + sumK pre) % 4294967296), .int .u32 b, .bool (stM t b m (sumK pre)), .bool (stL t b m l (sumK pre)), .int .i64 (t + sumK pre)] 66 (0, 0))
  r : W.heap[s + 1]? = some (.cells #[.int .u32 0, .int .u32 0, .bool false, .bool false, .int .i64 0] 66 (0, 0))
  low : Below w0.heap.size w0 W
  nn : 0 ≤ sumK pre
theorem stI_own {w0 : World} {s B : Nat} {t b : Int} {m l : Bool} (hB : s + 1 < B) (h0 : w0.heap.size ≤ s) : OwnFrom B (StI w0 s t b m l) := fun pre W W' row h hg hr =>
  ⟨ownFrom_boxP (β := Unit) (by omega) () W W' row h.c hg hr, ownFrom_boxP (β := Unit) hB () W W' row h.r hg hr, ownFrom_belowP (β := Unit) (by omega) (Nat.le_refl _) () W W' row h.low hg hr, h.nn⟩
def StX (_c : Code) (_pre : List Int) (_W : World) : Prop := False
set_option maxHeartbeats 8000000 in
set_option maxRecDepth 100000 in
theorem step_any (t n b : Int) (m l : Bool) (w : World) (h0 : 0 ≤ t) (hn : 0 ≤ n) (h3 : t + n ≤ 4503599627370496) :
    Calls Tryz.prog 30 #[clv (t % 4294967296) b m l t, .int .i64 n] w fun e w' => e = .returned (.tuple #[clv ((t + n) % 4294967296) b (stM t b m n) (stL t b m l n) (t + n), .int .i64 0]) ∧ Below w.heap.size w w' := by
  have f1 := Lib.hid (fun X => cnow_any t t b m l X h0 (Int.le_refl _) (by omega) (by omega))
  have f2 := Lib.hid (fun X => cparts_any n X)
  have hz := st_zero t b m l
  have HI0 : Hid (∀ W, W.heap[w.heap.size]? = some (.cells #[.int .u32 (t % 4294967296), .int .u32 b, .bool m, .bool l, .int .i64 t] 66 (0, 0)) → W.heap[w.heap.size + 1]? = some (.cells #[.int .u32 0, .int .u32 0, .bool false, .bool false, .int .i64 0] 66 (0, 0)) → Below w.heap.size w W → StI w w.heap.size t b m l [] W) := Lib.hid (fun W q1 q2 q3 => ⟨by
    simp only [sumK, Int.add_zero, hz.1, hz.2]; exact q1, q2, q3, by simp [sumK]⟩)
  unfold clv at f1 ⊢
  obtain ⟨a, ha⟩ : ∃ a, t % 4294967296 = a := ⟨_, rfl⟩
  rw [ha] at f1 HI0 ⊢
  clear ha hz
  refine calls_marks Tryz.func30 rfl ?_
  simp only [Tryz.ntmps30, List.size_toArray, List.length_cons, List.length_nil, Nat.reduceAdd, Nat.reduceSub, Array.replicate_succ, Array.replicate_zero, List.push_toArray, List.append_toArray, List.nil_append, List.cons_append]
  go_upto_region 1 with fail
  refine name_world fun V hV => ?_
  have H0 : Hid (V.heap[w.heap.size]? = some (.cells #[.int .u32 a, .int .u32 b, .bool m, .bool l, .int .i64 t] 66 (0, 0))) := Lib.hid (by rw [hV]; exact box_alloc (heap_alloc_new _ _) _)
  have H1 : Hid (V.heap[w.heap.size + 1]? = some (.cells #[.int .u32 0, .int .u32 0, .bool false, .bool false, .int .i64 0] 66 (0, 0))) := Lib.hid (by rw [hV]; exact heap_new_at _ (by simp))
  have HB : Hid (Below w.heap.size w V) := Lib.hid (by rw [hV]; exact ((Below.refl _ _).alloc (Nat.le_refl _) _).alloc (by simp) _)
  clear hV
  obtain ⟨x0, y0⟩ := box_rules H0.out
  have l0 := box_lt H0.out
  go_upto_region 8 with (go_at_call 46; (with_reducible refine (f1.out _).mono ?_); rintro e w1 ⟨rfl, hb1⟩; have HX0 := Lib.hid (box_keep H0.out hb1); have HX1 := Lib.hid (box_keep H1.out hb1); have HB1 := Lib.hid (HB.out.trans (hb1.mono HB.out.size)); clear hb1)
  clear x0 y0 l0
  obtain ⟨x0, y0⟩ := box_rules HX0.out
  have l0 := box_lt HX0.out
  go_upto_region 9 with fail
  refine name_world fun W hW => ?_
  have hTW : Tn [w.heap.size] w1 W := by rw [hW]; exact (Tn.refl _ _).setCell (by simp) _
  have HW0 : Hid (W.heap[w.heap.size]? = some (.cells #[.int .u32 a, .int .u32 b, .bool m, .bool l, .int .i64 t] 66 (0, 0))) := Lib.hid (by rw [hW]; exact box_set (i := 4) HX0.out _)
  have HW1 := Lib.hid (hTW.box HX1.out (by simp))
  have HWB : Hid (Below w.heap.size w W) := Lib.hid (hTW.base HB1.out (fun k hk => by obtain rfl := List.mem_singleton.1 hk; exact Nat.le_refl _) HB1.out.size)
  clear hW hTW x0 y0 l0
  go_wp2_with (go_at_call 47; (with_reducible refine (f2.out _).mono ?_); rintro e w3 ⟨rfl, rfl⟩)
  refine name_world fun W6 hW6 => ?_
  have hbW : Below W.heap.size W W6 := by rw [hW6]; exact (Below.refl _ _).alloc (Nat.le_refl _) _
  have hI0 := HI0.out W6 (box_keep HW0.out hbW) (box_keep HW1.out hbW) (HWB.out.trans (hbW.mono HWB.out.size))
  have hpb : W6.heap[W.heap.size]? = some (.cells #[.int .i64 n] 2 (0, 0)) := by rw [hW6]; exact heap_alloc_new _ _
  have hs6 : w.heap.size + 2 ≤ W.heap.size := by
    have h1 := box_lt HW1.out
    omega
  have hs7 : W.heap.size < W6.heap.size := box_lt hpb
  have hit := cparts_iter n W.heap.size W6 hn (by omega) hpb
  clear hW6 hpb f1 f2 HI0 H0 H1 HB HX0 HX1 HB1
  have HT := Lib.hid (show 0 ≤ t ∧ t + n ≤ 4503599627370496 from ⟨h0, h3⟩)
  refine (wpIn_wide (n := 9)).1 (wpIn_rangeFunc_G rfl (enters_of Tryz.func72 (by kernel_rfl) rfl) hit (fun _ _ => trivial) (fun _ _ _ _ _ _ _ _ => trivial) (Below.refl _ _) (fun _ => rfl)
    (StI w w.heap.size t b m l) StX (stI_own (by omega) (Nat.le_refl _)) (fun _ _ _ _ _ h _ _ => h.elim) hI0
    (fun x a' W' => a' = { tmps := #[.agg #[.int .u32 a, .int .u32 b, .bool m, .bool l, .int .i64 t], .int .i64 n, .pointer (some ⟨w.heap.size, 0, none⟩), undef, .pointer (some ⟨w.heap.size + 1, 0, none⟩), .int .i64 0, .int .i64 t, .int .i64 0, .int .u32 x, .tuple #[.int .i64 t, .int .i64 0], .agg #[.int .u32 a, .int .u32 b, .bool m, .bool l, .int .i64 t], .tuple #[.int .i64 t, .int .i64 0], .int .i64 t, .int .i64 0, .bool false, .int .i64 0, .bool false, undef, undef, .bool (decide (n < 0)), .int .i64 n, .bool (decide (n < 0)), undef, .bool (decide (4503599627370496 - t < n)), .int .i64 n, .int .i64 t, .int .i64 (4503599627370496 - t), .bool (decide (4503599627370496 - t < n)), undef, .int .i64 t, .pointer (some ⟨w.heap.size, 4, none⟩), .int .i64 n, .func (.func 72) #[] #[.pointer (some ⟨W.heap.size, 0, none⟩)], .int .u32 x, undef, undef, undef, undef, undef, undef, undef, undef, undef, undef, undef, undef, undef, undef, undef], defers := [] })
    (fun x a' s W W' row hs hg hr => hs)
    ?assign ?body ?done ?stop)
  case assign =>
    rintro l' pre x W' K hI hK
    gi_wp2
    exact hK _ _ (KeepsFrom.refl _ _) trivial hI rfl
  case body =>
    rintro l' pre k a' W' hI rfl ⟨hk0, hk1, hk2⟩
    clear hI0 hit
    obtain ⟨hc, hr, hlow, hnn⟩ := hI
    have ht0 := HT.out
    have f3 := Lib.hid (fun X => advance_any ((t + sumK pre) % 4294967296) b (stM t b m (sumK pre)) (stL t b m l (sumK pre)) k X (by omega))
    rw [(st_step t b m l (sumK pre) k hnn hk0).1, (st_step t b m l (sumK pre) k hnn hk0).2, st_mod] at f3
    have f4 := Lib.hid (fun X => cread_any (t + sumK pre) (t + (sumK pre + k)) b (stM t b m (sumK pre + k)) (stL t b m l (sumK pre + k)) X (by omega) (by omega) (by omega) (by omega))
    have HE : Hid (∀ W2, W2.heap[w.heap.size]? = some (.cells #[.int .u32 ((t + (sumK pre + k)) % 4294967296), .int .u32 b, .bool (stM t b m (sumK pre + k)), .bool (stL t b m l (sumK pre + k)), .int .i64 (t + (sumK pre + k))] 66 (0, 0)) →
      W2.heap[w.heap.size + 1]? = some (.cells #[.int .u32 0, .int .u32 0, .bool false, .bool false, .int .i64 0] 66 (0, 0)) → Below w.heap.size w W2 → StI w w.heap.size t b m l (pre ++ [k]) W2) := Lib.hid (fun W2 q1 q2 q3 => by
        have e := sumK_snoc pre k
        exact ⟨by rw [e]; exact q1, q2, q3, by rw [e]; omega⟩)
    unfold hwv at f3
    unfold clv at f4
    generalize (t + (sumK pre + k)) % 4294967296 = A1 at *
    generalize (t + sumK pre) % 4294967296 = A0 at *
    generalize stM t b m (sumK pre + k) = M1 at *
    generalize stM t b m (sumK pre) = M0 at *
    generalize stL t b m l (sumK pre + k) = L1 at *
    generalize stL t b m l (sumK pre) = L0 at *
    generalize t + (sumK pre + k) = T1 at *
    generalize t + sumK pre = T0 at *
    have HC := Lib.hid hc; have HR := Lib.hid hr; have HLow := Lib.hid hlow
    clear hc hr hlow hnn hk0 hk1 hk2 ht0 HT
    obtain ⟨x0, y0⟩ := box_rules HC.out
    have l0 := box_lt HC.out
    gi_upto_region 12 with (refine ⟨trivial, ?_⟩; gi_at_call 48; refine (callsIn_round (f3.out _)).mono ?_; rintro e w4 ⟨rfl, hb4⟩; have HB4 := Lib.hid hb4; have HC4 := Lib.hid (box_keep HC.out hb4); clear hb4 x0 y0 l0; obtain ⟨x0, y0⟩ := box_rules HC4.out; have l0 := box_lt HC4.out)
    refine name_worldI fun W5 hW5 => ?_
    obtain ⟨hE5, hT5⟩ := set45 HC4.out (.int .u32 A1) (.int .u32 b) (.bool M1) (.bool L1)
    have hK5 := ko_set4 (ko_below HB4.out) (b := w.heap.size) (.int .u32 A1) (.int .u32 b) (.bool M1) (.bool L1)
    rw [← hW5] at hE5 hT5 hK5
    have HE5 := Lib.hid hE5; have HT5 := Lib.hid hT5; have HK5 := Lib.hid hK5
    clear hW5 hE5 hT5 hK5 x0 y0 l0
    obtain ⟨x0, y0⟩ := box_rules HE5.out
    have l0 := box_lt HE5.out
    gi_wp2_with (refine ⟨trivial, ?_⟩; gi_at_call 49; refine (callsIn_round (f4.out _)).mono ?_; rintro e w6 ⟨rfl, hb6⟩; have HB6 := Lib.hid hb6; have HC6 := Lib.hid (box_keep HE5.out hb6); clear hb6 x0 y0 l0; obtain ⟨x0, y0⟩ := box_rules HC6.out; have l0 := box_lt HC6.out)
    have h5 := set5 HC6.out rfl (.int .u32 A1) (.int .u32 b) (.bool M1) (.bool L1) (.int .i64 T1)
    have hl4 : Below w.heap.size w w4 := HLow.out.trans (HB4.out.mono HLow.out.size)
    have hl5 := HT5.out.base hl4 (fun q hq => by obtain rfl := List.mem_singleton.1 hq; exact Nat.le_refl _) hl4.size
    have hl6 : Below w.heap.size w w6 := hl5.trans (HB6.out.mono hl5.size)
    exact ⟨(ko_set5 (HK5.out.trans (ko_below HB6.out)) _ _ _ _ _).from _, trivial, HE.out _ h5.1 (h5.2.box (box_keep (HT5.out.box (box_keep HR.out HB4.out) (by simp)) HB6.out) (by simp)) (h5.2.base hl6 (fun q hq => by obtain rfl := List.mem_singleton.1 hq; exact Nat.le_refl _) hl6.size)⟩
  case done =>
    intro D' xs X hD hS hI hK
    obtain ⟨hc, hr, hlow, _⟩ := hI
    rw [show sumK xs = n from hS] at hc
    have HC := Lib.hid hc; have HR := Lib.hid hr; have HLow := Lib.hid hlow; have HK := Lib.hid hK
    clear hit hI0 hc hr hlow hS hK
    obtain ⟨A1, hA1⟩ : ∃ A1, (t + n) % 4294967296 = A1 := ⟨_, rfl⟩
    obtain ⟨M1, hM1⟩ : ∃ M1, stM t b m n = M1 := ⟨_, rfl⟩
    obtain ⟨L1, hL1⟩ : ∃ L1, stL t b m l n = L1 := ⟨_, rfl⟩
    obtain ⟨T1, hT1⟩ : ∃ T1, t + n = T1 := ⟨_, rfl⟩
    rw [hA1, hM1, hL1, hT1] at HC
    have HA1 := Lib.hid hA1; have HM1 := Lib.hid hM1; have HL1 := Lib.hid hL1; have HT1 := Lib.hid hT1
    clear HT hA1 hM1 hL1 hT1
    obtain ⟨x0, y0⟩ := box_rules HC.out
    have l0 := box_lt HC.out
    obtain ⟨x1, y1⟩ := box_rules HR.out
    have l1 := box_lt HR.out
    dsimp only
    go_wp2
    refine name_postM fun V4 hV4 => ?_
    obtain ⟨hE4, hT4⟩ := set5 HR.out rfl (.int .u32 A1) (.int .u32 b) (.bool M1) (.bool L1) (.int .i64 T1)
    rw [← hV4] at hE4 hT4
    have hD4 : V4.heap[D']? = some (.deferred (some [])) := hT4.box HK.out (by simp; omega)
    have hE5 : (V4.putObj D' (.deferred none)).heap[w.heap.size + 1]? = _ := (World.putObj_heap_other (by omega)).trans hE4
    have hB4 := hT4.base HLow.out (fun q hq => by obtain rfl := List.mem_singleton.1 hq; omega) HLow.out.size
    obtain ⟨vx, vy⟩ := box_rules hE5
    clear hV4 x0 y0 l0 x1 y1 l1
    refine post_mark (v := .tuple #[.agg #[.int .u32 A1, .int .u32 b, .bool M1, .bool L1, .int .i64 T1], .int .i64 0]) hD4 (by simp [results, Tryz.f30, go_sem, vx]) ?_
    exact ⟨by rw [HA1.out, HM1.out, HL1.out, HT1.out], hB4.trans ((Below.refl _ _).grown (grownBy_putObj' V4 D' _) hB4.size (fun q e => by cases e; omega))⟩
  case stop =>
    intro D' c' pre W hD hS hX hK
    exact hX.elim
end Go.Proofs.YtiblpnadninmbaaGreatDoor
/- Package tickless: what a service does, in plain times. No premise of its own. -/
namespace Go.Proofs.YtiblpnadninmbaaGreatDoor
open Go.RowKit Go.Shelf
/-- A service. -/
structure Sst where
  L : List Du
  P : List Pe
  now : Int
  armed : Bool
  goal : Int
  wake : Int
deriving DecidableEq
/-- When it wakes for a deadline. -/
def planW (mn mx now d : Int) : Int := if aimT mn mx now d ≤ 4503599627370496 then aimT mn mx now d else 4503599627370496
def lookS (mn mx : Int) (s : Sst) : Sst :=
  if s.L = [] then { s with armed := false, goal := 0, wake := 0 }
  else if s.armed = true ∧ s.goal = minD 4503599627370496 s.L then s
  else { s with armed := true, goal := minD 4503599627370496 s.L, wake := planW mn mx s.now (minD 4503599627370496 s.L) }
/-- It wakes at a time: what fires, and what it is then. -/
def ranS (room : Nat) (mn mx T : Int) (L : List Du) (P : List Pe) : List Fi × Sst :=
  ((runT room T 1024 L P).1, lookS mn mx ⟨(runT room T 1024 L P).2.1, (runT room T 1024 L P).2.2, T, false, 0, 0⟩)
def ringS (room : Nat) (mn mx : Int) (s : Sst) : List Fi × Sst := ranS room mn mx s.wake s.L s.P
/-- Whether it wakes once more. -/
def goesS (endT : Int) (s : Sst) (n : Nat) : Bool := s.armed && decide (s.wake ≤ endT) && decide (n < 1024)
def advS (room : Nat) (mn mx endT : Int) : Nat → Sst → List Fi → Sst × List Fi
  | 0, s, out => (s, out)
  | k + 1, s, out => if goesS endT s out.length = true then advS room mn mx endT k (ringS room mn mx s).2 (out ++ (ringS room mn mx s).1) else (s, out)
def doneS (endT : Int) (s : Sst) : Sst := if s.armed = true ∧ s.wake ≤ endT then s else { s with now := endT }
def startS (room : Nat) (mn mx : Int) (s : Sst) (id a : Int) : Sst := if insC room s.L id a = 0 then lookS mn mx { s with L := insL room s.L id a } else s
def everyS (room : Nat) (mn mx : Int) (s : Sst) (id a p : Int) : Sst := if everyC room s.L id a p = 0 then lookS mn mx { s with L := everyL room s.L id a p, P := everyP room s.L s.P id a p } else s
def stopS (mn mx : Int) (s : Sst) (id : Int) : Sst := if canC s.L id = 0 then lookS mn mx { s with L := canL s.L id, P := woD s.P id } else s
/-- A loop of wakes, as far as it is. -/
structure AdI (room : Nat) (mn mx endT : Int) (s0 : Sst) (k : Nat) (s : Sst) (out : List Fi) : Prop where
  run : advS room mn mx endT 4096 s0 [] = advS room mn mx endT (4096 - k) s out
theorem AdI.zero (room : Nat) (mn mx endT : Int) (s : Sst) : AdI room mn mx endT s 0 s [] := ⟨rfl⟩
theorem AdI.step {room : Nat} {mn mx endT : Int} {s0 s : Sst} {k : Nat} {out : List Fi} (h : AdI room mn mx endT s0 k s out) (hk : k < 4096) (hg : goesS endT s out.length = true) :
    AdI room mn mx endT s0 (k + 1) (ringS room mn mx s).2 (out ++ (ringS room mn mx s).1) := by
  obtain ⟨j, hj⟩ : ∃ j, 4096 - k = j + 1 := ⟨4095 - k, by omega⟩
  refine ⟨?_⟩
  rw [h.run, hj, advS, if_pos hg, show 4096 - (k + 1) = j by omega]
theorem AdI.stop {room : Nat} {mn mx endT : Int} {s0 s : Sst} {k : Nat} {out : List Fi} (h : AdI room mn mx endT s0 k s out) (hg : ¬ (k < 4096 ∧ goesS endT s out.length = true)) : advS room mn mx endT 4096 s0 [] = (s, out) := by
  rw [h.run]
  by_cases hk : k < 4096
  · obtain ⟨j, hj⟩ : ∃ j, 4096 - k = j + 1 := ⟨4095 - k, by omega⟩
    rw [hj, advS, if_neg (fun h9 => hg ⟨hk, h9⟩)]
  · rw [show 4096 - k = 0 by omega, advS]
/-- What holds of a service whose timers were not past when they were started. -/
structure JL (mn : Int) (s : Sst) : Prop where
  now0 : 0 ≤ s.now
  now1 : s.now ≤ 4503599627370496
  ats : ∀ x ∈ s.L, 0 ≤ x.at' ∧ x.at' ≤ 4503599627370496
  pi : PI s.L s.P
  late : ∀ x ∈ s.L, s.now - x.at' < mn
  off : s.armed = false → s.L = []
  on : s.armed = true → s.L ≠ [] ∧ s.goal = minD 4503599627370496 s.L ∧ s.now ≤ s.wake ∧ s.wake < s.goal + mn ∧ s.wake ≤ 4503599627370496
theorem planW_ok {mn mx now d : Int} (h : TmOk mn mx) (h1 : now ≤ 4503599627370496) (hl : now - d < mn) : now ≤ planW mn mx now d ∧ planW mn mx now d < d + mn ∧ planW mn mx now d ≤ 4503599627370496 := by
  obtain ⟨g1, g2, g3⟩ := h
  have ha : now ≤ aimT mn mx now d ∧ aimT mn mx now d < d + mn := by
    unfold aimT
    repeat' split
    all_goals omega
  unfold planW
  split <;> omega
theorem min_mem {L : List Du} (hne : L ≠ []) (hb : ∀ x ∈ L, x.at' ≤ 4503599627370496) : ∃ x ∈ L, minD 4503599627370496 L = x.at' := by
  have key : ∀ (L : List Du) (t : Int), minD t L = t ∨ ∃ x ∈ L, minD t L = x.at' := by
    intro L
    induction L with
    | nil => exact fun t => .inl rfl
    | cons x L ih =>
      intro t
      show minD (min t x.at') L = t ∨ _
      rcases ih (min t x.at') with h | ⟨y, hy, h⟩
      · by_cases hx : x.at' ≤ t
        · exact .inr ⟨x, List.mem_cons_self .., show minD (min t x.at') L = _ by rw [h]; omega⟩
        · exact .inl (by rw [h]; omega)
      · exact .inr ⟨y, List.mem_cons_of_mem _ hy, h⟩
  rcases key L 4503599627370496 with h | h
  · cases L with
    | nil => exact absurd rfl hne
    | cons x L =>
      have h1 := min_le_all (L := x :: L) (x := x) (List.mem_cons_self ..)
      have h2 := hb x (List.mem_cons_self ..)
      exact ⟨x, List.mem_cons_self .., by omega⟩
  · exact h
/-- Looking keeps it. -/
theorem JL.look {mn mx : Int} {s : Sst} (h : TmOk mn mx) (h0 : 0 ≤ s.now) (h1 : s.now ≤ 4503599627370496) (ats : ∀ x ∈ s.L, 0 ≤ x.at' ∧ x.at' ≤ 4503599627370496) (pi : PI s.L s.P) (late : ∀ x ∈ s.L, s.now - x.at' < mn)
    (on : s.armed = true → s.goal = minD 4503599627370496 s.L → s.now ≤ s.wake ∧ s.wake < s.goal + mn ∧ s.wake ≤ 4503599627370496) : JL mn (lookS mn mx s) := by
  unfold lookS
  by_cases hL : s.L = []
  · rw [if_pos hL]
    exact ⟨h0, h1, ats, pi, late, fun _ => hL, fun h => (by cases h)⟩
  · rw [if_neg hL]
    by_cases ha : s.armed = true ∧ s.goal = minD 4503599627370496 s.L
    · rw [if_pos ha]
      exact ⟨h0, h1, ats, pi, late, fun h => (by rw [ha.1] at h; cases h), fun _ => ⟨hL, ha.2, on ha.1 ha.2⟩⟩
    · rw [if_neg ha]
      refine ⟨h0, h1, ats, pi, late, fun h => (by cases h), fun _ => ⟨hL, rfl, ?_⟩⟩
      obtain ⟨x, hx, hm⟩ := min_mem hL fun x hx => (ats x hx).2
      have h2 := late x hx
      exact planW_ok h h1 (by rw [hm]; exact h2)
theorem look_now (mn mx : Int) (s : Sst) : (lookS mn mx s).now = s.now ∧ (lookS mn mx s).L = s.L ∧ (lookS mn mx s).P = s.P := by
  unfold lookS
  split
  · exact ⟨rfl, rfl, rfl⟩
  · split <;> exact ⟨rfl, rfl, rfl⟩
/-- What fires in a run: none early, none late by Min. -/
theorem fire_keep {room : Nat} {T mn : Int} {L : List Du} {P : List Pe} (pi : PI L P) (ats : ∀ x ∈ L, 0 ≤ x.at' ∧ x.at' ≤ 4503599627370496) (late : ∀ x ∈ L, T - x.at' < mn) (hd : (popR T L).at' ≤ T) :
    (∀ x ∈ fireL room T L P, 0 ≤ x.at' ∧ x.at' ≤ 4503599627370496) ∧ ∀ x ∈ fireL room T L P, T - x.at' < mn := by
  have hin := pop_in hd
  have ha := ats _ hin
  have hl := late _ hin
  have hp := pi.range (popR T L).id
  have hsub : ∀ x ∈ canL L (popR T L).id, x ∈ L := fun x hx => (List.mem_filter.1 hx).1
  unfold fireL
  split
  · exact ⟨fun x hx => ats x (hsub x hx), fun x hx => late x (hsub x hx)⟩
  · unfold insL
    split
    · rename_i hc
      have hr : 0 ≤ (popR T L).at' + perD P (popR T L).id ∧ (popR T L).at' + perD P (popR T L).id ≤ 4503599627370496 := by
        unfold insC at hc
        split at hc
        · omega
        · rename_i h9; simpa using h9
      refine ⟨fun x hx => ?_, fun x hx => ?_⟩
      · rcases List.mem_append.1 hx with hx | hx
        · exact ats x (hsub x hx)
        · obtain rfl := List.mem_singleton.1 hx
          exact hr
      · rcases List.mem_append.1 hx with hx | hx
        · exact late x (hsub x hx)
        · obtain rfl := List.mem_singleton.1 hx
          show T - ((popR T L).at' + perD P (popR T L).id) < mn
          omega
    · exact ⟨fun x hx => ats x (hsub x hx), fun x hx => late x (hsub x hx)⟩
theorem runs_keep {room : Nat} {T mn : Int} : ∀ (n : Nat) {L : List Du} {P : List Pe}, PI L P → (∀ x ∈ L, 0 ≤ x.at' ∧ x.at' ≤ 4503599627370496) → (∀ x ∈ L, T - x.at' < mn) →
    PI (runT room T n L P).2.1 (runT room T n L P).2.2 ∧ (∀ x ∈ (runT room T n L P).2.1, 0 ≤ x.at' ∧ x.at' ≤ 4503599627370496) ∧ (∀ x ∈ (runT room T n L P).2.1, T - x.at' < mn) ∧
    ∀ f ∈ (runT room T n L P).1, 0 ≤ f.late ∧ f.late < mn ∧ f.at' + f.late = T
  | 0, L, P, pi, ats, late => ⟨pi, ats, late, fun f hf => (by cases hf)⟩
  | n + 1, L, P, pi, ats, late => by
    by_cases hd : (popR T L).at' ≤ T
    · rw [run_some n hd]
      obtain ⟨h1, h2⟩ := fire_keep (room := room) pi ats late hd
      obtain ⟨g1, g2, g3, g4⟩ := runs_keep n (pi.fire room T) h1 h2
      refine ⟨g1, g2, g3, fun f hf => ?_⟩
      rcases List.mem_cons.1 hf with rfl | hf
      · have := late _ (pop_in hd)
        show 0 ≤ T - (popR T L).at' ∧ T - (popR T L).at' < mn ∧ (popR T L).at' + (T - (popR T L).at') = T
        omega
      · exact g4 f hf
    · rw [run_none (n + 1) hd]
      exact ⟨pi, ats, late, fun f hf => (by cases hf)⟩
/-- What fires is in order, none early, none late by Min. -/
def FiO (mn : Int) : Int → List Fi → Int → Prop
  | lo, [], hi => lo ≤ hi
  | lo, f :: l, hi => 0 ≤ f.late ∧ f.late < mn ∧ lo ≤ f.at' + f.late ∧ FiO mn (f.at' + f.late) l hi
theorem FiO.same {mn T : Int} : ∀ {l : List Fi} {lo : Int}, lo ≤ T → (∀ f ∈ l, 0 ≤ f.late ∧ f.late < mn ∧ f.at' + f.late = T) → FiO mn lo l T
  | [], _, h, _ => h
  | f :: _, _, h, hf => by
    obtain ⟨h1, h2, h3⟩ := hf f (List.mem_cons_self ..)
    exact ⟨h1, h2, by omega, FiO.same (by omega) fun g hg => hf g (List.mem_cons_of_mem _ hg)⟩
theorem FiO.append {mn : Int} : ∀ {l l2 : List Fi} {lo mid hi : Int}, FiO mn lo l mid → FiO mn mid l2 hi → FiO mn lo (l ++ l2) hi
  | [], [], lo, mid, hi, h, k => by
    have h1 : lo ≤ mid := h
    have h2 : mid ≤ hi := k
    show lo ≤ hi
    omega
  | [], _ :: _, lo, mid, _, h, k => by
    have h1 : lo ≤ mid := h
    obtain ⟨k1, k2, k3, k4⟩ := k
    exact ⟨k1, k2, by omega, k4⟩
  | _ :: _, _, _, _, _, h, k => ⟨h.1, h.2.1, h.2.2.1, FiO.append h.2.2.2 k⟩
theorem FiO.le {mn : Int} : ∀ {l : List Fi} {lo hi : Int}, FiO mn lo l hi → lo ≤ hi
  | [], _, _, h => h
  | _ :: _, _, _, h => by
    have h1 := h.2.2.1
    have h2 := FiO.le h.2.2.2
    omega
theorem FiO.up {mn : Int} : ∀ {l : List Fi} {lo hi hi' : Int}, FiO mn lo l hi → hi ≤ hi' → FiO mn lo l hi'
  | [], _, _, _, h, k => Int.le_trans h k
  | _ :: _, _, _, _, h, k => ⟨h.1, h.2.1, h.2.2.1, FiO.up h.2.2.2 k⟩
theorem JL.ring {mn mx : Int} {room : Nat} {s : Sst} (ht : TmOk mn mx) (h : JL mn s) (ha : s.armed = true) : JL mn (ringS room mn mx s).2 ∧ FiO mn s.now (ringS room mn mx s).1 (ringS room mn mx s).2.now ∧ (ringS room mn mx s).2.now = s.wake := by
  obtain ⟨h1, h2, h3, h4, h5⟩ := h.on ha
  have hl : ∀ x ∈ s.L, s.wake - x.at' < mn := fun x hx => by
    have := min_le_all hx
    omega
  obtain ⟨g1, g2, g3, g4⟩ := runs_keep (room := room) 1024 h.pi h.ats hl
  have hn : (ringS room mn mx s).2.now = s.wake := (look_now mn mx _).1
  refine ⟨JL.look ht (by show 0 ≤ s.wake; have := h.now0; omega) h5 g2 g1 g3 (fun h => (by cases h)), ?_, hn⟩
  rw [hn]
  exact FiO.same h3 g4
theorem adv_keep {mn mx endT : Int} {room : Nat} (ht : TmOk mn mx) : ∀ (k : Nat) {s : Sst} {out : List Fi} {n0 : Int}, JL mn s → s.now ≤ endT → FiO mn n0 out s.now →
    JL mn (advS room mn mx endT k s out).1 ∧ (advS room mn mx endT k s out).1.now ≤ endT ∧ FiO mn n0 (advS room mn mx endT k s out).2 (advS room mn mx endT k s out).1.now
  | 0, s, out, n0, h, he, ho => ⟨h, he, ho⟩
  | k + 1, s, out, n0, h, he, ho => by
    rw [advS]
    by_cases hg : goesS endT s out.length = true
    · rw [if_pos hg]
      have ha : s.armed = true := by unfold goesS at hg; revert hg; cases s.armed <;> simp
      have hw : s.wake ≤ endT := by unfold goesS at hg; rw [Bool.and_eq_true, Bool.and_eq_true] at hg; exact of_decide_eq_true hg.1.2
      obtain ⟨h1, h2, h3⟩ := h.ring (room := room) ht ha
      exact adv_keep ht k h1 (by rw [h3]; exact hw) (ho.append h2)
    · rw [if_neg hg]
      exact ⟨h, he, ho⟩
theorem JL.done {mn endT : Int} {s : Sst} (h : JL mn s) (he : s.now ≤ endT) (h1 : endT ≤ 4503599627370496) : JL mn (doneS endT s) ∧ s.now ≤ (doneS endT s).now ∧ (doneS endT s).now ≤ endT := by
  unfold doneS
  by_cases hc : s.armed = true ∧ s.wake ≤ endT
  · rw [if_pos hc]
    exact ⟨h, Int.le_refl _, he⟩
  · rw [if_neg hc]
    refine ⟨⟨by have := h.now0; show 0 ≤ endT; omega, h1, h.ats, h.pi, fun x hx => ?_, h.off, fun ha => ?_⟩, he, Int.le_refl _⟩
    · show endT - x.at' < mn
      cases ha : s.armed with
      | false => rw [h.off ha] at hx; cases hx
      | true =>
        obtain ⟨h1, h2, h3, h4, h5⟩ := h.on ha
        have h6 := min_le_all hx
        have hw : ¬ s.wake ≤ endT := fun h9 => hc ⟨ha, h9⟩
        clear hc
        rw [← h2] at h6
        omega
    · obtain ⟨h1, h2, h3, h4, h5⟩ := h.on ha
      have hw : ¬ s.wake ≤ endT := fun h9 => hc ⟨ha, h9⟩
      exact ⟨h1, h2, by show endT ≤ s.wake; omega, h4, h5⟩
theorem JL.start {mn mx : Int} {room : Nat} {s : Sst} (ht : TmOk mn mx) (h : JL mn s) (id a : Int) (ha : s.now ≤ a ∨ a < 0) : JL mn (startS room mn mx s id a) := by
  unfold startS
  by_cases hc : insC room s.L id a = 0
  · rw [if_pos hc]
    have hr : 0 ≤ a ∧ a ≤ 4503599627370496 := by
      unfold insC at hc
      split at hc
      · omega
      · rename_i h9; simpa using h9
    have hL : insL room s.L id a = s.L ++ [⟨id, a⟩] := if_pos hc
    have hm : 1 ≤ mn := ht.1
    refine JL.look ht h.now0 h.now1 (fun x hx => ?_) (h.pi.ins room id a) (fun x hx => ?_) (fun h9 h8 => ?_)
    · rw [show ({ s with L := insL room s.L id a } : Sst).L = s.L ++ [⟨id, a⟩] from hL] at hx
      rcases List.mem_append.1 hx with hx | hx
      · exact h.ats x hx
      · obtain rfl := List.mem_singleton.1 hx
        exact hr
    · rw [show ({ s with L := insL room s.L id a } : Sst).L = s.L ++ [⟨id, a⟩] from hL] at hx
      rcases List.mem_append.1 hx with hx | hx
      · exact h.late x hx
      · obtain rfl := List.mem_singleton.1 hx
        show s.now - a < mn
        omega
    · exact (h.on h9).2.2
  · rw [if_neg hc]
    exact h
theorem JL.every {mn mx : Int} {room : Nat} {s : Sst} (ht : TmOk mn mx) (h : JL mn s) (id a p : Int) (ha : s.now ≤ a ∨ a < 0) : JL mn (everyS room mn mx s id a p) := by
  unfold everyS
  by_cases hc : everyC room s.L id a p = 0
  · rw [if_pos hc]
    have hp : 1 ≤ p ∧ p ≤ 4503599627370496 := by
      unfold everyC at hc
      split at hc
      · assumption
      · omega
    have hc2 : insC room s.L id a = 0 := by
      unfold everyC at hc
      rwa [if_pos hp] at hc
    have hr : 0 ≤ a ∧ a ≤ 4503599627370496 := by
      unfold insC at hc2
      split at hc2
      · omega
      · rename_i h9; simpa using h9
    have hL : everyL room s.L id a p = s.L ++ [⟨id, a⟩] := by
      unfold everyL insL
      rw [if_pos hp, if_pos hc2]
    have hm : 1 ≤ mn := ht.1
    refine JL.look ht h.now0 h.now1 (fun x hx => ?_) (h.pi.everyR room id a p) (fun x hx => ?_) (fun h9 h8 => ?_)
    · have hx : x ∈ everyL room s.L id a p := hx
      rw [hL] at hx
      rcases List.mem_append.1 hx with hx | hx
      · exact h.ats x hx
      · obtain rfl := List.mem_singleton.1 hx
        exact hr
    · have hx : x ∈ everyL room s.L id a p := hx
      rw [hL] at hx
      rcases List.mem_append.1 hx with hx | hx
      · exact h.late x hx
      · obtain rfl := List.mem_singleton.1 hx
        show s.now - a < mn
        omega
    · exact (h.on h9).2.2
  · rw [if_neg hc]
    exact h
theorem JL.stop {mn mx : Int} {s : Sst} (ht : TmOk mn mx) (h : JL mn s) (id : Int) : JL mn (stopS mn mx s id) := by
  unfold stopS
  by_cases hc : canC s.L id = 0
  · rw [if_pos hc]
    have hsub : ∀ x ∈ canL s.L id, x ∈ s.L := fun x hx => (List.mem_filter.1 hx).1
    exact JL.look ht h.now0 h.now1 (fun x hx => h.ats x (hsub x hx)) (h.pi.stop id) (fun x hx => h.late x (hsub x hx)) (fun h9 h8 => (h.on h9).2.2)
  · rw [if_neg hc]
    exact h
theorem JL.zero {mn now : Int} (h0 : 0 ≤ now) (h1 : now ≤ 4503599627370496) : JL mn ⟨[], [], now, false, 0, 0⟩ :=
  ⟨h0, h1, fun x h => (by cases h), PI.zero [], fun x h => (by cases h), fun _ => rfl, fun h => (by cases h)⟩
end Go.Proofs.YtiblpnadninmbaaGreatDoor
/- Package tickless: what holds of any service. No premise of its own. -/
namespace Go.Proofs.YtiblpnadninmbaaGreatDoor
open Go.RowKit Go.Shelf
/-- What holds of any service. -/
structure JB (s : Sst) : Prop where
  now0 : 0 ≤ s.now
  now1 : s.now ≤ 4503599627370496
  pi : PI s.L s.P
  on : s.armed = true → s.now ≤ s.wake ∧ s.wake ≤ 4503599627370496
  off : s.armed = false → s.wake = 0
theorem planW_ge {mn mx now d : Int} (h : TmOk mn mx) (h1 : now ≤ 4503599627370496) : now ≤ planW mn mx now d ∧ planW mn mx now d ≤ 4503599627370496 := by
  obtain ⟨g1, g2, g3⟩ := h
  have ha : now ≤ aimT mn mx now d := by
    unfold aimT
    repeat' split
    all_goals omega
  unfold planW
  split <;> omega
theorem JB.look {mn mx : Int} {s : Sst} (h : TmOk mn mx) (hs : JB s) : JB (lookS mn mx s) := by
  unfold lookS
  by_cases hL : s.L = []
  · rw [if_pos hL]
    exact ⟨hs.now0, hs.now1, hs.pi, fun h => (by cases h), fun _ => rfl⟩
  · rw [if_neg hL]
    split
    · exact hs
    · exact ⟨hs.now0, hs.now1, hs.pi, fun _ => planW_ge h hs.now1, fun h => (by cases h)⟩
theorem runs_pi {room : Nat} {T : Int} : ∀ (n : Nat) {L : List Du} {P : List Pe}, PI L P → PI (runT room T n L P).2.1 (runT room T n L P).2.2
  | 0, _, _, pi => pi
  | n + 1, L, P, pi => by
    by_cases hd : (popR T L).at' ≤ T
    · rw [run_some n hd]
      exact runs_pi n (pi.fire room T)
    · rw [run_none (n + 1) hd]
      exact pi
theorem runs_len {room : Nat} {T : Int} : ∀ (n : Nat) {L : List Du} {P : List Pe}, (runT room T n L P).1.length ≤ n
  | 0, _, _ => Nat.le_refl _
  | n + 1, L, P => by
    by_cases hd : (popR T L).at' ≤ T
    · rw [run_some n hd]
      exact Nat.succ_le_succ (runs_len n)
    · rw [run_none (n + 1) hd]
      exact Nat.zero_le _
theorem JB.ran {mn mx T : Int} {room : Nat} {L : List Du} {P : List Pe} (ht : TmOk mn mx) (h0 : 0 ≤ T) (h1 : T ≤ 4503599627370496) (pi : PI L P) : JB (ranS room mn mx T L P).2 ∧ (ranS room mn mx T L P).2.now = T ∧ (ranS room mn mx T L P).1.length ≤ 1024 :=
  ⟨JB.look ht ⟨h0, h1, runs_pi 1024 pi, fun h => (by cases h), fun _ => rfl⟩, (look_now mn mx _).1, runs_len 1024⟩
theorem JB.ring {mn mx : Int} {room : Nat} {s : Sst} (ht : TmOk mn mx) (h : JB s) (ha : s.armed = true) : JB (ringS room mn mx s).2 ∧ (ringS room mn mx s).2.now = s.wake ∧ (ringS room mn mx s).1.length ≤ 1024 :=
  JB.ran ht (Int.le_trans h.now0 (h.on ha).1) (h.on ha).2 h.pi
theorem goes_iff {endT : Int} {s : Sst} {n : Nat} : goesS endT s n = true ↔ s.armed = true ∧ s.wake ≤ endT ∧ n < 1024 := by
  unfold goesS
  rw [Bool.and_eq_true, Bool.and_eq_true, decide_eq_true_iff, decide_eq_true_iff]
  exact ⟨fun h => ⟨h.1.1, h.1.2, h.2⟩, fun h => ⟨⟨h.1, h.2.1⟩, h.2.2⟩⟩
theorem adv_jb {mn mx endT : Int} {room : Nat} (ht : TmOk mn mx) : ∀ (k : Nat) {s : Sst} {out : List Fi}, JB s → s.now ≤ endT → JB (advS room mn mx endT k s out).1 ∧ (advS room mn mx endT k s out).1.now ≤ endT
  | 0, _, _, h, he => ⟨h, he⟩
  | k + 1, s, out, h, he => by
    rw [advS]
    by_cases hg : goesS endT s out.length = true
    · rw [if_pos hg]
      obtain ⟨ha, hw, _⟩ := goes_iff.1 hg
      obtain ⟨h1, h3, _⟩ := h.ring (room := room) ht ha
      exact adv_jb ht k h1 (by rw [h3]; exact hw)
    · rw [if_neg hg]
      exact ⟨h, he⟩
theorem JB.done {endT : Int} {s : Sst} (h : JB s) (he : s.now ≤ endT) (h1 : endT ≤ 4503599627370496) : JB (doneS endT s) ∧ s.now ≤ (doneS endT s).now ∧ (doneS endT s).now ≤ endT := by
  unfold doneS
  by_cases hc : s.armed = true ∧ s.wake ≤ endT
  · rw [if_pos hc]
    exact ⟨h, Int.le_refl _, he⟩
  · rw [if_neg hc]
    refine ⟨⟨by have := h.now0; show 0 ≤ endT; omega, h1, h.pi, fun ha => ?_, h.off⟩, he, Int.le_refl _⟩
    have hw : ¬ s.wake ≤ endT := fun h9 => hc ⟨ha, h9⟩
    exact ⟨by show endT ≤ s.wake; omega, (h.on ha).2⟩
theorem JB.start {mn mx : Int} {room : Nat} {s : Sst} (ht : TmOk mn mx) (h : JB s) (id a : Int) : JB (startS room mn mx s id a) := by
  unfold startS
  split
  · exact JB.look ht ⟨h.now0, h.now1, h.pi.ins room id a, h.on, h.off⟩
  · exact h
theorem JB.every {mn mx : Int} {room : Nat} {s : Sst} (ht : TmOk mn mx) (h : JB s) (id a p : Int) : JB (everyS room mn mx s id a p) := by
  unfold everyS
  split
  · exact JB.look ht ⟨h.now0, h.now1, h.pi.everyR room id a p, h.on, h.off⟩
  · exact h
theorem JB.stop {mn mx : Int} {s : Sst} (ht : TmOk mn mx) (h : JB s) (id : Int) : JB (stopS mn mx s id) := by
  unfold stopS
  split
  · exact JB.look ht ⟨h.now0, h.now1, h.pi.stop id, h.on, h.off⟩
  · exact h
theorem JB.zero {now : Int} (h0 : 0 ≤ now) (h1 : now ≤ 4503599627370496) : JB ⟨[], [], now, false, 0, 0⟩ := ⟨h0, h1, PI.zero [], fun h => (by cases h), fun _ => rfl⟩
end Go.Proofs.YtiblpnadninmbaaGreatDoor

/- Package intc, plain law: a right controller stays right when a line is served, raised, ends. Conditions: none but that it is right. -/
import Derived.Test.YtbhjkfeonhddlaaDoorLawD
namespace Go.Proofs.YtbhjkfeonhddlaaDoor
open Go.RowKit Go.Shelf

theorem IC.ok_sets {d : IC} (h : d.ok) (p e r : Nat) (hs : ∀ i, d.prio.length ≤ i → i < 64 → p.testBit i = false ∧ e.testBit i = false ∧ r.testBit i = false) (hrg : ∀ i, i < 64 → r.testBit i = true → d.g.testBit i = false) :
    ({ d with p := p, e := e, r := r } : IC).ok :=
  ⟨h.len1, h.len2, h.prio, fun i a b => ⟨(hs i a b).1, (hs i a b).2.1, (hs i a b).2.2, (h.sets i a b).2.2.2⟩, hrg, h.t0, h.t1, h.stack⟩
theorem setB_off {b n len : Nat} (hn : n < len) (on : Bool) {i : Nat} (hi : len ≤ i) (h64 : i < 64) (hb : b.testBit i = false) : (setB b n on).testBit i = false := by
  rw [setB_bit b n on h64, if_neg (by omega)]; exact hb
theorem st_snoc (d : IC) (x : Int) (l : List Int) (e : l = d.stack ++ [x]) {i : Nat} (hi : i < d.stack.length) : l.getD i 0 = d.st i := by
  subst e
  unfold IC.st
  simp only [List.getD]
  rw [List.getElem?_append_left hi]
theorem st_last (d : IC) (x : Int) : (d.stack ++ [x]).getD d.stack.length 0 = x := by
  simp [List.getD]
/-- Serving a line that is more urgent than the level keeps a controller right. -/
theorem IC.ok_push {d : IC} (h : d.ok) {n : Nat} (hn : n < d.prio.length) (hl : d.level < d.pr n) : ({ d with p := setB d.p n false, stack := d.stack ++ [(n : Int)] } : IC).ok := by
  refine ⟨h.len1, h.len2, h.prio, fun i a b => ⟨setB_off hn false a b (h.sets i a b).1, (h.sets i a b).2⟩, h.rg, h.t0, h.t1, ?_⟩
  intro i hi
  have hi' : i < d.stack.length + 1 := by
    have : ({ d with p := setB d.p n false, stack := d.stack ++ [(n : Int)] } : IC).stack.length = d.stack.length + 1 := by show (d.stack ++ [_]).length = _; simp
    omega
  have hah : ∀ j, j < d.stack.length + 1 → IC.ahead { d with p := setB d.p n false, stack := d.stack ++ [(n : Int)] } j = d.ahead j := by
    intro j hj
    cases j with
    | zero => rfl
    | succ j =>
      show d.pr ((d.stack ++ [(n : Int)]).getD j 0) = d.pr (d.st j)
      rw [st_snoc d n _ rfl (by omega)]
  by_cases he : i < d.stack.length
  · have hg := h.stack i he
    unfold IC.good at hg ⊢
    have e1 : IC.st { d with p := setB d.p n false, stack := d.stack ++ [(n : Int)] } i = d.st i := st_snoc d n _ rfl he
    rw [e1, hah i hi']
    exact hg
  · obtain rfl : i = d.stack.length := by omega
    unfold IC.good
    have e1 : IC.st { d with p := setB d.p n false, stack := d.stack ++ [(n : Int)] } d.stack.length = (n : Int) := st_last d n
    rw [e1, hah _ hi']
    refine ⟨by omega, by show (n : Int) < d.prio.length; omega, ?_⟩
    show d.ahead d.stack.length < d.pr n
    unfold IC.level at hl
    by_cases h0 : d.stack.length = 0
    · rw [if_pos h0] at hl
      rw [h0]
      show (0 : Int) < _
      have := h.t0
      omega
    · rw [if_neg h0] at hl
      obtain ⟨m, hm⟩ : ∃ m, d.stack.length = m + 1 := ⟨d.stack.length - 1, by omega⟩
      rw [hm] at hl ⊢
      show d.pr (d.st m) < _
      simp only [Nat.add_sub_cancel] at hl
      omega
theorem ofList_last (l : List Int) {n : Nat} (hn : n < 64) : (ofList (l ++ [(n : Int)])).testBit n = true := by
  rw [ofList_bit]
  simp [hn]
theorem dropLast_snoc (l : List Int) (x : Int) : (l ++ [x]).dropLast = l := by simp
/-- What the parts of the law come to where a line n is served. -/
structure AgainIs (d D E F G : IC) (n : Nat) : Prop where
  ack : d.three d.ackF = (D, (n : Int), 0)
  e : D.three D.endF = (E, (n : Int), 0)
  f : D.on n D.raiseF = (F, 0)
  g : F.three F.endF = (G, (n : Int), 0)
  dp : D.p.testBit n = false
  gp : G.p.testBit n = true
  ep : E.p.testBit n = d.r.testBit n
  es : E.stack = d.stack
  fd : D.Fits
  fe : E.Fits
  ff : F.Fits
  fg : G.Fits
theorem again_is {d : IC} (hf : d.Fits) (hk : d.ok) (h64 : d.best ≠ 64) : ∃ (n : Nat) (D E F G : IC), n < d.prio.length ∧ AgainIs d D E F G n := by
  obtain ⟨n, hn, hbn, hlv, _⟩ := (d.best_or hk).resolve_left h64
  have hn64 : n < 64 := by have := hk.len2; omega
  have hst := stack_len hk
  have h1 : d.three d.ackF = ({ d with p := setB d.p n false, stack := d.stack ++ [(n : Int)] }, (n : Int), 0) := by
    rw [IC.three_ok hk]; unfold IC.ackF; rw [if_neg h64, hbn]; rfl
  have hkD := IC.ok_push hk hn hlv
  have hfD : ({ d with p := setB d.p n false, stack := d.stack ++ [(n : Int)] } : IC).Fits := by have := fits_ack' hf; rw [h1] at this; exact this
  generalize hD : ({ d with p := setB d.p n false, stack := d.stack ++ [(n : Int)] } : IC) = D at *
  have Dst : D.stack = d.stack ++ [(n : Int)] := by rw [← hD]
  have Dp : D.p = setB d.p n false := by rw [← hD]
  have Dr : D.r = d.r := by rw [← hD]
  have Dg : D.g = d.g := by rw [← hD]
  have Dl : D.prio.length = d.prio.length := by rw [← hD]
  have Dne : D.stack ≠ [] := by rw [Dst]; simp
  have Dlen : D.stack.length - 1 = d.stack.length := by rw [Dst]; simp
  have Dlast : D.st (D.stack.length - 1) = (n : Int) := by rw [Dlen]; unfold IC.st; rw [Dst]; exact st_last d n
  have Dbit : D.p.testBit n = false := by rw [Dp, setB_bit _ _ _ hn64, if_pos rfl]
  have h2 : D.three D.endF = ({ D with p := if D.r.testBit n = true then setB D.p n true else D.p, stack := D.stack.dropLast }, (n : Int), 0) := by
    rw [IC.three_ok hkD]; unfold IC.endF; rw [if_neg Dne, Dlast]; rfl
  -- the raise
  have hin := IC.on_in (d := D) hkD (n := n) (by rw [Dl]; omega) D.raiseF
  obtain ⟨F, h3, hkF, hfF, Fst, Fbit⟩ : ∃ F, D.raiseF n = (F, 0) ∧ F.ok ∧ F.Fits ∧ F.stack = D.stack ∧ (F.p.testBit n = true ∨ F.r.testBit n = true) := by
    unfold IC.raiseF
    by_cases hg : D.g.testBit n = true
    · rw [if_pos hg, if_neg (by rw [Dbit]; decide)]
      refine ⟨_, rfl, ?_, ⟨setB_lt _ _ _, hfD.e, hfD.r, hfD.g, hfD.prio, hfD.stack⟩, rfl, .inl ?_⟩
      · exact IC.ok_sets hkD _ D.e D.r (fun i a b => ⟨setB_off (len := D.prio.length) (by omega) true a b (hkD.sets i a b).1, (hkD.sets i a b).2.1, (hkD.sets i a b).2.2.1⟩) hkD.rg
      · show (setB D.p n true).testBit n = true
        rw [setB_bit _ _ _ hn64, if_pos rfl]
    · rw [if_neg hg, if_pos (by rw [Dst]; exact ofList_last _ hn64)]
      refine ⟨_, rfl, ?_, ⟨hfD.p, hfD.e, setB_lt _ _ _, hfD.g, hfD.prio, hfD.stack⟩, rfl, .inr ?_⟩
      · refine IC.ok_sets hkD D.p D.e _ (fun i a b => ⟨(hkD.sets i a b).1, (hkD.sets i a b).2.1, setB_off (len := D.prio.length) (by omega) true a b (hkD.sets i a b).2.2.1⟩) (fun i h64 hi => ?_)
        rw [setB_bit _ _ _ h64] at hi
        by_cases he : i = n
        · subst he; simpa using hg
        · rw [if_neg he] at hi; exact hkD.rg i h64 hi
      · show (setB D.r n true).testBit n = true
        rw [setB_bit _ _ _ hn64, if_pos rfl]
  have Fne : F.stack ≠ [] := by rw [Fst]; exact Dne
  have Flast : F.st (F.stack.length - 1) = (n : Int) := by rw [← Dlast]; unfold IC.st; rw [Fst]
  have h4 : F.three F.endF = ({ F with p := if F.r.testBit n = true then setB F.p n true else F.p, stack := F.stack.dropLast }, (n : Int), 0) := by
    rw [IC.three_ok hkF]; unfold IC.endF; rw [if_neg Fne, Flast]; rfl
  have hfE := fits_end hfD
  have hfG := fits_end hfF
  rw [h2] at hfE
  rw [h4] at hfG
  refine ⟨n, D, _, F, _, hn, ⟨h1, h2, hin.trans h3, h4, Dbit, ?_, ?_, ?_, hfD, hfE, hfF, hfG⟩⟩
  · show (if F.r.testBit n = true then setB F.p n true else F.p).testBit n = true
    split
    · rw [setB_bit _ _ _ hn64, if_pos rfl]
    · rename_i h; exact Fbit.resolve_right h
  · show (if D.r.testBit n = true then setB D.p n true else D.p).testBit n = d.r.testBit n
    split
    · rename_i h
      rw [setB_bit _ _ _ hn64, if_pos rfl, ← Dr, h]
    · rename_i h
      rw [Dbit, ← Dr]
      simpa using h
  · show D.stack.dropLast = d.stack
    rw [Dst]; exact dropLast_snoc _ _
end Go.Proofs.YtbhjkfeonhddlaaDoor

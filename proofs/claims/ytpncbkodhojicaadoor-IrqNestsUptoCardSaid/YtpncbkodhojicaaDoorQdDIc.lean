/- Package irq: the walk of Unmask. Conditions: lines' memory that lies beyond the de Bruijn table. -/
import Derived.Test.YtpncbkodhojicaaDoorQdCIc
import Derived.BigQuiet
namespace Go.Proofs.YtpncbkodhojicaaDoor
open Go.RowKit Go.Shelf
variable {Bs : Nat → Prop}
attribute [local go_sem] Oper.semAt_some
variable {P : Program}
/-- 'for x := range it { body }' with an invariant that abides marks that lie at the world's end or beyond it. -/
theorem wp_rangeF {α σ : Type} {g : Operand} {ps : Array Tmp} {assign body : Code} {Q : Exit → Act → World → Prop} {a : Act} {w w0 : World} {n₀ : Nat}
    {gf : Nat} {lb : Array Value} (hg : a.eval g = .func (.func gf) #[] lb) (eg : ∀ args w, (callFunc gf args).run P w = .ok (.enter gf args) w)
    {encs : α → Array Value} {S Sp : List α → Prop} {N : Nat} (hseq : Iter P gf lb encs n₀ S Sp N w) (hps : ∀ x, (encs x).size = ps.size)
    (hn : n₀ ≤ w0.heap.size) (hb : Below n₀ w0 w)
    (Inv : List α → σ → World → Prop) (hO : ∀ s, OwnFrom w.heap.size fun pre W => Inv pre s W) (s0 : σ) (h0 : Inv [] s0 w) (a₁ : α → Act)
    (hassign : ∀ (l : Nat) (x : α) (W : World) (K : Act → World → Prop), K (a₁ x) W →
      assign.wpIn (Fence.wide.inRound l) 7 P (Exit.then K (fun _ _ _ => False)) { tmps := (ps.zip (encs x)).foldl (fun t (p, v) => t.setIfInBounds p v) a.tmps, defers := [] } W)
    (hbody : ∀ (l : Nat) (pre : List α) (x : α) (s : σ) (W : World), Inv pre s W → Below n₀ w0 W → w.heap.size ≤ W.heap.size → pre.length < N →
      body.wpIn (Fence.wide.inRound l) 7 P (rangePost n₀ (fun pre W => ∃ s, Inv pre s W) (fun _ _ _ => False) (pre ++ [x]) W) (a₁ x) W)
    (hdone : ∀ (D : Nat) (xs : List α) (s : σ) (W : World), w.heap.size ≤ D → S xs → Inv xs s W → Below n₀ w0 W → W.heap[D]? = some (.deferred (some [])) → Q .normal { a with defers := { target := .collected D, args := #[] } :: a.defers } W) :
    (Code.rangeFunc g ps assign body).wp P Q a w := by
  have hw : n₀ ≤ w.heap.size := Nat.le_trans hn hb.size
  have hOe : OwnFrom w.heap.size fun pre W => ∃ s, Inv pre s W := by
    intro pre W W' row ⟨s, hs⟩ hg hr
    exact ⟨s, hO s pre W W' row hs hg hr⟩
  have hB : OwnFrom w.heap.size fun (_ : List α) W => Below n₀ w0 W ∧ w.heap.size ≤ W.heap.size := by
    intro pre W W' row ⟨h1, h2⟩ hg hr
    exact ⟨h1.grown hg (Nat.le_trans hw h2) fun k e => Nat.le_trans hw (hr k e).1, Nat.le_trans h2 hg.size⟩
  have h := wpIn_rangeFunc_ownF (F := Fence.wide) (n := 9) (P := P) (Q := Q) (a := a) (w := w) (assign := assign) (body := body) rfl (by omega) hg trivial eg hseq
    belowK_t (belowK_b hw) (Below.refl _ _) hps
    (fun pre W => (∃ s, Inv pre s W) ∧ (Below n₀ w0 W ∧ w.heap.size ≤ W.heap.size)) (fun _ _ W => False ∧ (Below n₀ w0 W ∧ w.heap.size ≤ W.heap.size)) (OwnFrom.and hOe hB) (fun _ => OwnFrom.and (fun _ _ _ _ h _ _ => h) hB)
    ⟨⟨s0, h0⟩, hb, Nat.le_refl _⟩ a₁ hassign
    (fun l pre x W ⟨⟨s, hs⟩, hb', hsz⟩ hl => by
      refine wpIn_mono (hbody l pre x s W hs hb' hsz hl) ?_
      intro e a' W' hp
      cases e with
      | normal => exact ⟨hp.1, hp.2.1, hp.2.2, hb'.trans hp.2.1, Nat.le_trans hsz hp.1.size⟩
      | ret => exact hp.2.2.elim
      | exit id => exact hp.2.2.elim
      | goto t => exact hp.2.2.elim
      | panic ch => exact hp
      | outgrown => exact hp)
    (fun D xs W hD hS ⟨⟨s, hs⟩, hb', _⟩ hK => hdone D xs s W hD hS hs hb' hK)
    (fun D c pre W hD hS ⟨h, hb', _⟩ hK => h.elim)
  exact wpIn_wide.1 h
/-- What a call on lines leaves, where the controller's rows lie in sight. -/
def RetIqN (Bs : Nat → Prop) (f : IqF) (s s' : Qs) (v : Value) (w : World) (e : Ending) (w' : World) : Prop := e = .returned v ∧ ∃ pA pc tA tc, IqR Bs w' f s' pA pc tA tc ∧ New w.heap.size pA tA ∧ (∀ k ∈ qL f s', k ∈ qL f s) ∧ Tn (qL f s) w w'
set_option maxHeartbeats 8000000 in
set_option maxRecDepth 100000 in
theorem imaskN_any (f : IqF) (s : Qs) (n : Nat) (i : Nat) (on : Bool) (w : World) (pA : Option Addr) (pc : Nat) (tA : Option Addr) (tc : Nat) (h : IqR Bs w f s pA pc tA tc) (hI : QI n s) (hi : i < s.ls.length) :
    Calls Tryd.prog 41 #[.pointer (some ⟨f.p, 0, none⟩), .int .i64 i, .bool on] w (RetIqN Bs f s (s.put i { s.ln i with masked := on }) (.tuple #[]) w) := by
  have hR := h
  clear h
  have fE := Lib.hid (fun X hp hq => enable_any (qIC s) hI.fits pA pc tA tc (i : Int) X hp hq (!on))
  rw [q_enable hI hi] at fE
  unfold RetI icv at fE
  dsimp only at fE
  have HR := Lib.hid hR
  have HI := Lib.hid hI
  have HIi := Lib.hid hi
  have hi64 : i < 64 := by have := hI.len; omega
  have hmb : mB s < 18446744073709551616 := mk_lt _
  have HP0 : Hid (1 ≤ (qIC s).prio.length) := Lib.hid (qIC_ok hI).len1
  have u1 := u_andNot hmb hi64
  have u2 := u_or (setB_lt (mB s) i false) hi64
  rw [setB_twice] at u2
  obtain ⟨x, y⟩ := box_rules hR.box
  have l := box_lt hR.box
  have b1 : (i : Int) < 64 := by omega
  have HQ : Hid (qIC (s.put i { s.ln i with masked := on }) = { qIC s with e := setB (qIC s).e i (!on) }) := Lib.hid (qIC_mask (x := { s.ln i with masked := on }) hI hi rfl rfl)
  have HMb : Hid (mB (s.put i { s.ln i with masked := on }) = setB (mB s) i on) := Lib.hid (mB_set hi)
  clear hR hI hi hmb
  go_enter Tryd.func41, Tryd.ntmps41
  go_wp2_with fail
  refine still_tail 9 (by kernel_rfl) (by kernel_rfl) ?_
  simp only [List.take_succ_cons, List.take_zero, List.drop_succ_cons, List.drop_zero]
  repeat still_step
  refine wpStill_nil ?_
  have hX := box_set (i := 9) (w := w) HR.out.box (.int .u64 ((setB (mB s) i false : Nat) : Int))
  simp only [List.setIfInBounds_toArray, List.set_cons_zero, List.set_cons_succ] at hX
  have hpm : f.p ∈ [f.p] := by simp
  have hTm : Tn [f.p] w (w.setCell ⟨f.p, 9, none⟩ (.int .u64 ((setB (mB s) i false : Nat) : Int))) := (Tn.refl _ _).setCell (p := ⟨f.p, 9, none⟩) hpm _
  cases on with
  | false =>
    simp only [Bool.not_false] at fE
    go_wp2_with fail
    have hX := bdrq hX
    have hTm := hTm.drew
    have HX := Lib.hid hX
    have HTm := Lib.hid hTm
    have hlt := HR.out.lt
    have hps := (mem_qL (f := f) (s := s)).2 (.inl rfl)
    have HLp := Lib.hid (show f.p ∈ qL f s from hps)
    have HLt := Lib.hid hlt
    have HA1 : Hid (∀ a, pA = some a → a.block ∉ [f.p]) := Lib.hid (fun a ha hm => (HR.out.op a ha).2 (by rw [List.mem_singleton.1 hm]; exact HLp.out))
    clear hX hTm x y l hlt hps u1 u2 b1 hi64
    (with_reducible refine (fE.out _ (HR.out.rp.tn HTm.out HA1.out) ?_).mono ?_)
    · by_cases hb : s.bs = []
      · show Rd _ tA ((s.bs.map fun b => (b.line : Int)).map (.int .i64))
        rw [hb]; exact Rd.nil _ _
      · exact HR.out.rt.tn HTm.out (fun a ha hm => (HR.out.ot a ha hb).2 (by rw [List.mem_singleton.1 hm]; exact HLp.out))
    rintro e w1 ⟨pA', pc', sA', sc', rfl, hp1, hs1, hb1, hn1⟩
    have HP1 := Lib.hid hp1
    have HS1 := Lib.hid hs1
    have HN1 := Lib.hid hn1
    have HX1 := Lib.hid (box_keep HX.out hb1)
    have HT1 := Lib.hid (HTm.out.below hb1)
    have hsz := HTm.out.size
    have HSz := Lib.hid hsz
    clear hp1 hs1 hb1 hn1 hsz
    obtain ⟨x, y⟩ := box_rules HX1.out
    have l := box_lt HX1.out
    go_wp2
    first
      | refine bodyPost_ret (results_none rfl _ _ _) rfl ?_
      | go_end0
    obtain ⟨hE7, hT7⟩ := set7 HX1.out (.int .u64 (qIC s).p) (.int .u64 ((setB (qIC s).e i (!false) : Nat) : Int)) (.int .u64 (qIC s).r) (.int .u64 (qIC s).g) (.slice pA' (qIC s).prio.length pc') (.int .i64 (qIC s).t) (.slice sA' (qIC s).stack.length sc')
    have hT := HT1.out.trans hT7
    have hnp : f.p < w.heap.size := HLt.out _ HLp.out
    have hms := HR.out.ms _ (ln_mem HIi.out)
    have hapm := HR.out.apart (ln_mem HIi.out)
    refine ⟨rfl, pA', pc', sA', sc', HR.out.put (x := { s.ln i with masked := false }) HIi.out rfl rfl hT (fun k hk => .inl (List.mem_singleton.1 hk)) ?_ ?_ ?_ (fun a ha hm => ?_) (fun a ha hb hm => ?_) ?_ ?_ ?_ (fun a ha hB => by have h7 := HN1.out.1 a ha; have h6 := HR.out.bl _ hB; have h5 := HSz.out; simp at h5 h7; omega) (fun a ha _ hB => by have h7 := HN1.out.2 a ha; have h6 := HR.out.bl _ hB; have h5 := HSz.out; simp at h5 h7; omega), HN1.out.mono HSz.out, fun k hk => (by rw [← put_qL (x := { s.ln i with masked := false }) HIi.out rfl rfl]; exact hk), hT.mono (fun k hk => by rw [List.mem_singleton.1 hk]; exact HLp.out)⟩
    · rw [HQ.out, HMb.out]
      exact hE7
    · rw [HQ.out]
      exact HP1.out.tn hT7 (fun a ha hm => by have h7 := HN1.out.1 a ha; have h6 := HSz.out; have h5 := List.mem_singleton.1 hm; simp at h6 h7; omega)
    · rw [HQ.out]
      exact HS1.out.tn hT7 (fun a ha hm => by have h7 := HN1.out.2 a ha; have h6 := HSz.out; have h5 := List.mem_singleton.1 hm; simp at h6 h7; omega)
    · have h7 := HN1.out.1 a ha; have h6 := HLt.out _ hm; have h5 := HSz.out; simp at h5 h7; omega
    · have h7 := HN1.out.2 a ha; have h6 := HLt.out _ hm; have h5 := HSz.out; simp at h5 h7; omega
    · rw [HQ.out]; exact HP0.out
    · rw [mask_ll]
      exact own_tnq HR.out.ll hT (fun b hb hm => by
        cases ha : f.lA with
        | none => rw [ha] at hb; cases hb
        | some a => rw [ha] at hb; injection hb with hb; exact (HR.out.rows.1 a ha) (hb.trans (List.mem_singleton.1 hm)))
    · exact MkR.tn hms hT (fun hm => hapm.1.1 (List.mem_singleton.1 hm)) (fun hm => hapm.1.2 (List.mem_singleton.1 hm)) (Int.le_refl _)
  | true =>
    simp only [Bool.not_true] at fE
    go_wp2_with fail
    refine still_tail 9 (by kernel_rfl) (by kernel_rfl) ?_
    simp only [List.take_succ_cons, List.take_zero, List.drop_succ_cons, List.drop_zero]
    repeat still_step
    refine wpStill_nil ?_
    have hX2 := box_set (i := 9) (w := (w.setCell ⟨f.p, 9, none⟩ (.int .u64 ((setB (mB s) i false : Nat) : Int)))) hX (.int .u64 ((setB (mB s) i true : Nat) : Int))
    simp only [List.setIfInBounds_toArray, List.set_cons_zero, List.set_cons_succ] at hX2
    have hTm2 : Tn [f.p] w ((w.setCell ⟨f.p, 9, none⟩ (.int .u64 ((setB (mB s) i false : Nat) : Int))).setCell ⟨f.p, 9, none⟩ (.int .u64 ((setB (mB s) i true : Nat) : Int))) := hTm.setCell (p := ⟨f.p, 9, none⟩) hpm _
    clear hX hTm
    go_wp2_with fail
    have hX := bdrq (bdrq hX2)
    have hTm := hTm2.drew.drew
    clear hX2 hTm2
    have HX := Lib.hid hX
    have HTm := Lib.hid hTm
    have hlt := HR.out.lt
    have hps := (mem_qL (f := f) (s := s)).2 (.inl rfl)
    have HLp := Lib.hid (show f.p ∈ qL f s from hps)
    have HLt := Lib.hid hlt
    have HA1 : Hid (∀ a, pA = some a → a.block ∉ [f.p]) := Lib.hid (fun a ha hm => (HR.out.op a ha).2 (by rw [List.mem_singleton.1 hm]; exact HLp.out))
    clear hX hTm x y l hlt hps u1 u2 b1 hi64
    (with_reducible refine (fE.out _ (HR.out.rp.tn HTm.out HA1.out) ?_).mono ?_)
    · by_cases hb : s.bs = []
      · show Rd _ tA ((s.bs.map fun b => (b.line : Int)).map (.int .i64))
        rw [hb]; exact Rd.nil _ _
      · exact HR.out.rt.tn HTm.out (fun a ha hm => (HR.out.ot a ha hb).2 (by rw [List.mem_singleton.1 hm]; exact HLp.out))
    rintro e w1 ⟨pA', pc', sA', sc', rfl, hp1, hs1, hb1, hn1⟩
    have HP1 := Lib.hid hp1
    have HS1 := Lib.hid hs1
    have HN1 := Lib.hid hn1
    have HX1 := Lib.hid (box_keep HX.out hb1)
    have HT1 := Lib.hid (HTm.out.below hb1)
    have hsz := HTm.out.size
    have HSz := Lib.hid hsz
    clear hp1 hs1 hb1 hn1 hsz
    obtain ⟨x, y⟩ := box_rules HX1.out
    have l := box_lt HX1.out
    go_wp2
    first
      | refine bodyPost_ret (results_none rfl _ _ _) rfl ?_
      | go_end0
    obtain ⟨hE7, hT7⟩ := set7 HX1.out (.int .u64 (qIC s).p) (.int .u64 ((setB (qIC s).e i (!true) : Nat) : Int)) (.int .u64 (qIC s).r) (.int .u64 (qIC s).g) (.slice pA' (qIC s).prio.length pc') (.int .i64 (qIC s).t) (.slice sA' (qIC s).stack.length sc')
    have hT := HT1.out.trans hT7
    have hnp : f.p < w.heap.size := HLt.out _ HLp.out
    have hms := HR.out.ms _ (ln_mem HIi.out)
    have hapm := HR.out.apart (ln_mem HIi.out)
    refine ⟨rfl, pA', pc', sA', sc', HR.out.put (x := { s.ln i with masked := true }) HIi.out rfl rfl hT (fun k hk => .inl (List.mem_singleton.1 hk)) ?_ ?_ ?_ (fun a ha hm => ?_) (fun a ha hb hm => ?_) ?_ ?_ ?_ (fun a ha hB => by have h7 := HN1.out.1 a ha; have h6 := HR.out.bl _ hB; have h5 := HSz.out; simp at h5 h7; omega) (fun a ha _ hB => by have h7 := HN1.out.2 a ha; have h6 := HR.out.bl _ hB; have h5 := HSz.out; simp at h5 h7; omega), HN1.out.mono HSz.out, fun k hk => (by rw [← put_qL (x := { s.ln i with masked := true }) HIi.out rfl rfl]; exact hk), hT.mono (fun k hk => by rw [List.mem_singleton.1 hk]; exact HLp.out)⟩
    · rw [HQ.out, HMb.out]
      exact hE7
    · rw [HQ.out]
      exact HP1.out.tn hT7 (fun a ha hm => by have h7 := HN1.out.1 a ha; have h6 := HSz.out; have h5 := List.mem_singleton.1 hm; simp at h6 h7; omega)
    · rw [HQ.out]
      exact HS1.out.tn hT7 (fun a ha hm => by have h7 := HN1.out.2 a ha; have h6 := HSz.out; have h5 := List.mem_singleton.1 hm; simp at h6 h7; omega)
    · have h7 := HN1.out.1 a ha; have h6 := HLt.out _ hm; have h5 := HSz.out; simp at h5 h7; omega
    · have h7 := HN1.out.2 a ha; have h6 := HLt.out _ hm; have h5 := HSz.out; simp at h5 h7; omega
    · rw [HQ.out]; exact HP0.out
    · rw [mask_ll]
      exact own_tnq HR.out.ll hT (fun b hb hm => by
        cases ha : f.lA with
        | none => rw [ha] at hb; cases hb
        | some a => rw [ha] at hb; injection hb with hb; exact (HR.out.rows.1 a ha) (hb.trans (List.mem_singleton.1 hm)))
    · exact MkR.tn hms hT (fun hm => hapm.1.1 (List.mem_singleton.1 hm)) (fun hm => hapm.1.2 (List.mem_singleton.1 hm)) (Int.le_refl _)

/-- What Masked of a line's mask leaves. -/
def RetImk (Bs : Nat → Prop) (f : IqF) (s : Qs) (i : Nat) (pA : Option Addr) (pc : Nat) (tA : Option Addr) (tc : Nat) (w : World) (e : Ending) (w' : World) : Prop :=
  e = .returned (.tuple #[.bool ((s.ln i).look s.last).full, .int .i64 0]) ∧ IqR Bs w' f (s.put i ((s.ln i).look s.last)) pA pc tA tc ∧ Tn [(s.ln i).mb] w w' ∧ qL f (s.put i ((s.ln i).look s.last)) = qL f s
end Go.Proofs.YtpncbkodhojicaaDoor

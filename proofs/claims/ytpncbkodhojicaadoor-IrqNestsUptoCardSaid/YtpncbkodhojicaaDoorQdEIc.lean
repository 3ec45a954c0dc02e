/- Package irq: what Unmask stands on: tell and a mask's Masked where the controller's rows lie in sight; append in a round. Conditions: lines' memory. -/
import Derived.Test.YtpncbkodhojicaaDoorQdDIc
import Derived.Maps.AppendAt
namespace Go.Proofs.YtpncbkodhojicaaDoor
open Go.RowKit Go.Shelf
variable {Bs : Nat → Prop}
attribute [local go_sem] Oper.semAt_some
/-- A line's mask turned. -/
theorem IqR.maskR {w w' : World} {f : IqF} {s : Qs} {pA : Option Addr} {pc : Nat} {tA : Option Addr} {tc : Nat} {n : Nat} (h : IqR Bs w f s pA pc tA tc) (hI : QI n s) {i : Nat} (hi : i < s.ls.length) {x : Lq} (h1 : x.how = (s.ln i).how) (h2 : x.masked = (s.ln i).masked) (h3 : x.pending = (s.ln i).pending) (h4 : lmc x = lmc (s.ln i)) (h5 : x.mb = (s.ln i).mb) (h6 : x.mg = (s.ln i).mg)
    (ht : Tn [(s.ln i).mb, (s.ln i).mg] w w') (mx : MkR w' s.last x) : IqR Bs w' f (s.put i x) pA pc tA tc ∧ Tn (qL f s) w w' ∧ qL f (s.put i x) = qL f s := by
  have hap := h.apart (ln_mem hi)
  have hin : ∀ k ∈ [(s.ln i).mb, (s.ln i).mg], k ∈ qL f s := fun k hk => by
    rcases List.mem_cons.1 hk with rfl | hk
    · exact mem_qL.2 (.inr (.inr (.inr (.inl ⟨_, ln_mem hi, rfl⟩))))
    · rw [List.mem_singleton.1 hk]; exact mem_qL.2 (.inr (.inr (.inr (.inr ⟨_, ln_mem hi, rfl⟩))))
  refine ⟨h.put hi h5 h6 ht (fun k hk => ?_) ?_ ?_ ?_ (fun a ha => (h.op a ha).2) (fun a ha hb => (h.ot a ha hb).2) ?_ ?_ mx h.bp h.bt, ht.mono hin, put_qL hi h5 h6⟩
  · rw [h5, h6]
    rcases List.mem_cons.1 hk with rfl | hk
    · exact .inr (.inr (.inl rfl))
    · exact .inr (.inr (.inr (List.mem_singleton.1 hk)))
  · rw [qIC_same hI hi h1 h2 h3, mB_put hi h2]
    refine ht.box h.box (fun hm => ?_)
    rcases List.mem_cons.1 hm with e | e
    · exact hap.1.1 e.symm
    · exact hap.1.2 (List.mem_singleton.1 e).symm
  · rw [qIC_same hI hi h1 h2 h3]
    exact h.rp.tn ht (fun a ha hm => (h.op a ha).2 (hin _ hm))
  · rw [qIC_same hI hi h1 h2 h3]
    by_cases hb : s.bs = []
    · show Rd _ tA ((s.bs.map fun b => (b.line : Int)).map (.int .i64))
      rw [hb]; exact Rd.nil _ _
    · exact h.rt.tn ht (fun a ha hm => (h.ot a ha hb).2 (hin _ hm))
  · rw [qIC_same hI hi h1 h2 h3]; exact (qIC_ok hI).len1
  · rw [put_llx hi h4]
    exact own_tnq h.ll ht (fun b hb hm => by
      cases ha : f.lA with
      | none => rw [ha] at hb; cases hb
      | some a =>
        rw [ha] at hb; injection hb with hb
        have q := hap.2.1 a ha
        rcases List.mem_cons.1 hm with e | e
        · exact q.1 (by rw [← e, ← hb])
        · exact q.2 (by rw [← List.mem_singleton.1 e, ← hb]))
set_option maxHeartbeats 4000000 in
theorem itellR_ok (f : IqF) (s : Qs) (n : Nat) (now : Int) (w : World) (pA : Option Addr) (pc : Nat) (tA : Option Addr) (tc : Nat) (h : IqR Bs w f s pA pc tA tc) (hI : QI n s) (hc : timeC s now = true) :
    Calls Tryd.prog 38 #[.pointer (some ⟨f.p, 0, none⟩), .int .i64 now] w fun e w' => e = .returned (.int .i64 0) ∧ IqR Bs w' f (s.at' now) pA pc tA tc ∧ Tn [f.p] w w' := by
  have hR := h
  clear h
  have HR := Lib.hid hR
  have HP0 : Hid (1 ≤ (qIC s).prio.length) := Lib.hid (qIC_ok hI).len1
  obtain ⟨x, y⟩ := box_rules hR.box
  have l := box_lt hR.box
  have h0 := hI.last
  have hn : 0 ≤ now ∧ now ≤ 4503599627370496 ∧ s.last ≤ now := of_decide_eq_true hc
  have HLe : Hid (s.last ≤ now) := Lib.hid hn.2.2
  have q1 : ¬ now < s.last := by omega
  have q2 : ¬ 4503599627370496 < now := by omega
  have z1 : decide (now < s.last) = false := decide_eq_false q1
  have z2 : decide (4503599627370496 < now) = false := decide_eq_false q2
  clear hR hI hc hn
  go_enter Tryd.func38, Tryd.ntmps38
  go_wp2
  go_ret
  have hps : f.p ∈ qL f s := mem_qL.2 (.inl rfl)
  have hT : Tn [f.p] w (w.setCell ⟨f.p, 10, none⟩ (.int .i64 now)) := (Tn.refl _ _).setCell (p := ⟨f.p, 10, none⟩) (by simp) _
  have hE := box_set (i := 10) HR.out.box (.int .i64 now)
  have hrows := HR.out.rows
  refine ⟨rfl, HR.out.upd (s' := s.at' now) rfl hE (HR.out.rp.tn hT (fun a ha hm => (HR.out.op a ha).2 (by rw [List.mem_singleton.1 hm]; exact hps))) ?_ (fun a ha => (HR.out.op a ha).2) (fun a ha hb => (HR.out.ot a ha hb).2) HP0.out ?_ ?_ ?_ rfl rfl HR.out.bp HR.out.bt hT.size, hT⟩
  · by_cases hb : s.bs = []
    · show Rd _ tA ((s.bs.map fun b => (b.line : Int)).map (.int .i64))
      rw [hb]; exact Rd.nil _ _
    · exact HR.out.rt.tn hT (fun a ha hm => (HR.out.ot a ha hb).2 (by rw [List.mem_singleton.1 hm]; exact hps))
  · exact own_tnq HR.out.ll hT (fun b hb hm => by
      cases ha : f.lA with
      | none => rw [ha] at hb; cases hb
      | some a => rw [ha] at hb; injection hb with hb; exact (hrows.1 a ha) (hb.trans (List.mem_singleton.1 hm)))
  · exact own_tnq HR.out.sl hT (fun b hb hm => by
      cases ha : f.sA with
      | none => rw [ha] at hb; cases hb
      | some a => rw [ha] at hb; injection hb with hb; exact (hrows.2.1 a ha) (hb.trans (List.mem_singleton.1 hm)))
  · intro x hx
    have hap := HR.out.apart hx
    exact (HR.out.ms x hx).tn hT (fun hm => hap.1.1 (List.mem_singleton.1 hm)) (fun hm => hap.1.2 (List.mem_singleton.1 hm)) HLe.out

theorem immasked_ok (f : IqF) (s : Qs) (n i : Nat) (w : World) (pA : Option Addr) (pc : Nat) (tA : Option Addr) (tc : Nat) (h : IqR Bs w f s pA pc tA tc) (hI : QI n s) (hi : i < s.ls.length) :
    Calls Tryd.prog 43 #[.pointer (some ⟨(s.ln i).mb, 0, none⟩), .int .i64 s.last] w (RetImk Bs f s i pA pc tA tc w) := by
  have g := hI.line hi
  obtain ⟨many, ml, fi, rf, ring, q1, q2, hm⟩ := h.ms _ (ln_mem hi)
  refine (mmasked_ok (s.ln i).mb (s.ln i).mg many (s.ln i).how.window (s.ln i).L ml fi rf ring s.last w hm g.sort q2 hI.last.2).mono fun e w' hq => ?_
  obtain ⟨rfl, fi', hm', ht'⟩ := hq
  have hle := backL_len s.last (s.ln i).how.window (s.ln i).L
  have hlm := hm.len
  have hfull : ((s.ln i).look s.last).full = decide ((backL s.last (s.ln i).how.window (s.ln i).L).length = many) := by
    unfold Lq.full
    rw [decide_eq_decide]
    show (s.ln i).how.many ≤ ((backL s.last (s.ln i).how.window (s.ln i).L).length : Int) ↔ _
    rw [q1]
    omega
  have hM := h.maskR (x := (s.ln i).look s.last) hI hi rfl rfl rfl rfl rfl rfl (ht'.mono (by simp)) ⟨many, s.last, fi', rf, ring, q1, Int.le_refl _, hm'⟩
  exact ⟨by rw [hfull], hM.1, ht', hM.2.2⟩
theorem sk_intq : SlK Tryd.prog 53 3 1 8 := SlK.mk' (z := .int .i64 0) Tryd.underlying53 (by kernel_rfl) rfl (by decide)
/-- append(out, x) in a round, and where the row lies then. -/
theorem wpI_appAt {F : Fence} {mm : Nat} {P : Program} {w : World} {ops : Array Oper} {rest : List Oper} {o : Oper} {a : Act} {Q : Exit → Act → World → Prop} (hgd : o.guard = none) (s x : Operand) {t e : TypeId} {k bytes : Nat}
    (T : SlK P t e k bytes) (hb : bytes ≤ 128) (ho : o.op = .call { callee := .builtin .append, args := #[s, x], argTypes := #[t, t] })
    {base : Nat} {v : Value} {n : Nat} {xs : List Value} (hown : w.ownsRow base e k v n xs) (hs : a.eval s = v) (hn : n ≤ 1099511627775) (hbase : base ≤ w.heap.size)
    (g : Nat) (us : List Value) (hx : a.eval x = .slice (some ⟨g, 0, none⟩) 1 1) (hl : us.length = k) (hc : ∀ j u, us[j]? = some u → w.cell? ⟨g, j, none⟩ = some u) (h1 : us.all (fun u => u.oneCell') = true)
    (h : ∀ A c w', w'.ownsRow base e k (.slice A (n + 1) c) (n + 1) (xs ++ us) → w.grownBy w' v.ownBlock → ((Value.slice A (n + 1) c).ownBlock = v.ownBlock ∨ (Value.slice A (n + 1) c).ownBlock = some w.heap.size) → wpListIn F mm P ops Q rest (a.put o.dst (.slice A (n + 1) c)) w') : wpListIn F mm P ops Q (o :: rest) a w := by
  obtain ⟨i, z, hi, hz, hs1, hby, hzs⟩ := T.hi
  have hc' : ∀ j u', us[j]? = some u' → w.cell? ((⟨g, 0, none⟩ : Addr).add j) = some u' := fun j u' hu => by
    rw [add_zero_lit, Nat.zero_add]; exact hc j u' hu
  have h63 : n + 1 ≤ maxLen := by unfold maxLen; omega
  have hbt : (n + 1) * bytes ≤ 140737488355328 := by
    calc (n + 1) * bytes ≤ (n + 1) * 128 := Nat.mul_le_mul_left _ hb
      _ ≤ _ := by omega
  refine wpListIn_plain hgd fun K hK' => ?_
  obtain ⟨v', w', hrun, r1, r2, _, r4⟩ := run_append_own_at (P := P) w base t o.type e i z k bytes T.ht hi hz hs1 hby hzs T.h0 v n xs hown ⟨g, 0, none⟩ 1 1 us (by rw [hl, Nat.one_mul]) hc' (List.all_eq_true.1 h1) h63 hbt hbase
  obtain ⟨A, c, rfl, _⟩ := own_sliceK r1
  unfold Oper.wpIn
  refine ⟨?_, ?_⟩
  · simp [Oper.about, ho, resolve, Target.leads, Sem.run_pure]
  · rw [Oper.semAt_plain F _ _ (by rw [ho]; intro c hc'; cases hc')]
    simp [execOp, ho, resolve, invoke, builtin, hs, hx, hrun, Result.andThen]
    exact hK' _ _ (h A c w' r1 r2 r4)
theorem ko_tn {F : List Nat} {w w' : World} (ht : Tn F w w') (hF : ∀ k ∈ F, ∃ cs t, w.heap[k]? = some (.cells cs t (0, 0))) : KeepsOthers w w' :=
  ⟨ht.size, fun k o hk hc => (ht.block k (box_lt hk) (fun hm => by
    obtain ⟨cs, t, h1⟩ := hF k hm
    rw [hk] at h1
    cases h1
    cases hc)).trans hk⟩
theorem IqR.own {w w' : World} {f : IqF} {s : Qs} {pA : Option Addr} {pc : Nat} {tA : Option Addr} {tc : Nat} {row : Option Nat} (h : IqR Bs w f s pA pc tA tc) (hg : w.grownBy w' row) (hr : ∀ r, row = some r → ∃ o : Obj, w.heap[r]? = some o ∧ o.isCells = false) : IqR Bs w' f s pA pc tA tc := by
  have ht : Tn row.toList w w' := ⟨hg.os, hg.tape, hg.output, hg.size, fun k hk hm => hg.block k hk (fun e => hm (by rw [← e]; simp))⟩
  have hne : ∀ (k : Nat) (o' : Obj), w.heap[k]? = some o' → o'.isCells = true → k ∉ row.toList := fun k o' hk hc hm => by
    obtain ⟨o, h1, h2⟩ := hr k (by simpa using hm)
    rw [hk] at h1
    cases h1
    rw [hc] at h2; cases h2
  refine h.tn ht (fun k hk => ?_) (fun a ha => ?_) (fun a ha hb => ?_)
  · obtain ⟨cs, t, hc⟩ := h.cells k hk
    exact hne k _ hc rfl
  · have h0 : (qIC s).prio.length = qN s := qPrio_len s
    have h1 : 1 ≤ qN s := by unfold qN; split <;> omega
    obtain ⟨o', h1, h2⟩ := rd_cells h.rp (by rw [List.length_map]; omega) ha
    exact hne _ _ h1 h2
  · obtain ⟨o', h1, h2⟩ := rd_cells h.rt (by rw [List.length_map]; show 0 < (s.bs.map _).length; rw [List.length_map]; exact List.length_pos_iff.2 hb) ha
    exact hne _ _ h1 h2
/-- Where Unmask stands: what was handed out, and the lines. -/
structure UmS (Bs : Nat → Prop) (w : World) (b2 : Nat) (f : IqF) (s1 : Qs) (now : Int) (R : Qs × List Int) (W : World) (OA : Option Addr) (oc : Nat) (pA : Option Addr) (pc : Nat) (tA : Option Addr) (tc : Nat) : Prop where
  held : Held [(w.heap.size, [.pointer (some ⟨f.p, 0, none⟩)]), (w.heap.size + 1, [.int .i64 now])] W
  box : W.heap[b2]? = some (.cells #[.slice OA R.2.length oc] 53 (0, 0))
  iq : IqR Bs W f R.1 pA pc tA tc
  sub : ∀ k ∈ qL f R.1, k ∈ qL f s1
  tn : Tn (qL f s1) w W
  own : W.ownsRow (b2 + 1) 3 1 (.slice OA R.2.length oc) R.2.length (R.2.map (.int .i64))
  pa : ∀ a, pA = some a → a.block ≠ b2 ∧ ∀ o, OA = some o → a.block ≠ o.block
  ta : ∀ a, tA = some a → R.1.bs ≠ [] → a.block ≠ b2 ∧ ∀ o, OA = some o → a.block ≠ o.block
def UmI (Bs : Nat → Prop) (w : World) (b2 : Nat) (f : IqF) (s1 : Qs) (now : Int) (R : Qs × List Int) (W : World) : Prop := ∃ OA oc pA pc tA tc, UmS Bs w b2 f s1 now R W OA oc pA pc tA tc
theorem UmI.from {β : Type} {w : World} {b2 : Nat} {f : IqF} {s1 : Qs} {now : Int} {B : Nat} (hB : w.heap.size ≤ B) (R : β → Qs × List Int) : OwnFrom B fun (x : β) W => UmI Bs w b2 f s1 now (R x) W := by
  intro x W W' row ⟨OA, oc, pA, pc, tA, tc, h⟩ hg hr
  have hr' : ∀ r, row = some r → ∃ o : Obj, W.heap[r]? = some o ∧ o.isCells = false := fun r e => (hr r e).2
  refine ⟨OA, oc, pA, pc, tA, tc, held_own (fun _ : Unit => _) () W W' row h.held hg hr', (grownBy_keeps_cells hg hr' h.box rfl).trans h.box, h.iq.own hg hr', h.sub, h.tn.grown hg (fun k e => .inr (Nat.le_trans hB (hr k e).1)), own_keptK h.own fun g hg' => ?_, h.pa, h.ta⟩
  obtain ⟨_, hlt, cur, hc⟩ := own_blockK h.own hg'
  exact grownBy_keeps_cells hg hr' hc rfl
end Go.Proofs.YtpncbkodhojicaaDoor

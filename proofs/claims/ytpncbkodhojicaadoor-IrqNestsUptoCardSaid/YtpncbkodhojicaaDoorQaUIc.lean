/- Package irq: the walks of tell, Take. Conditions: lines' memory, the de Bruijn table. -/
import Derived.Test.YtpncbkodhojicaaDoorQaTIc
namespace Go.Proofs.YtpncbkodhojicaaDoor
open Go.RowKit Go.Shelf
variable {Bs : Nat → Prop}
attribute [local go_sem] Oper.semAt_some
theorem Tn.trans2 {F F' : List Nat} {w w1 w2 : World} (h : Tn F w w1) (k : Tn F' w1 w2) (hF : ∀ b ∈ F', b ∈ F ∨ w.heap.size ≤ b) : Tn F w w2 :=
  ⟨k.os.trans h.os, k.tape.trans h.tape, k.output.trans h.output, Nat.le_trans h.size k.size, fun i hi hf => (k.block i (Nat.lt_of_lt_of_le hi h.size) (fun e => by rcases hF i e with q | q; exact hf q; omega)).trans (h.block i hi hf)⟩
theorem RetIq.trans {f : IqF} {s s1 s2 : Qs} {v v1 : Value} {w w1 w2 : World} {e e1 : Ending} (h1 : RetIq Bs f s s1 v1 w e1 w1) (hf : ∀ f1 : IqF, f1.p = f.p → IqM Bs w1 f1 s1 → (∀ k ∈ qL f1 s1, k ∈ qL f s ∨ w.heap.size ≤ k) → RetIq Bs f1 s1 s2 v w1 e w2) : RetIq Bs f s s2 v w e w2 := by
  obtain ⟨_, f1, q1, q2, q3, q4⟩ := h1
  obtain ⟨g1, f2, p1, p2, p3, p4⟩ := hf f1 q1 q2 q3
  refine ⟨g1, f2, p1.trans q1, p2, fun k hk => ?_, q4.trans2 p4 q3⟩
  rcases p3 k hk with h | h
  · exact q3 k h
  · exact .inr (Nat.le_trans q4.size h)
set_option maxHeartbeats 4000000 in
theorem itell_bad (f : IqF) (s : Qs) (n : Nat) (now : Int) (w : World) (h : IqM Bs w f s) (hI : QI n s) (hc : timeC s now = false) :
    Calls Tryd.prog 38 #[.pointer (some ⟨f.p, 0, none⟩), .int .i64 now] w (RetIq Bs f s s (.int .i64 1) w) := by
  have H := Lib.hid h
  obtain ⟨pA, pc, tA, tc, hR⟩ := h
  obtain ⟨x, y⟩ := box_rules hR.box
  have l := box_lt hR.box
  have h0 := hI.last
  have hn : ¬ (0 ≤ now ∧ now ≤ 4503599627370496 ∧ s.last ≤ now) := of_decide_eq_false hc
  clear hR hI hc
  by_cases q1 : now < s.last
  · have z1 : decide (now < s.last) = true := decide_eq_true q1
    clear hn
    go_enter Tryd.func38, Tryd.ntmps38
    go_wp2
    go_ret
    exact RetIq.same H.out
  · have z1 : decide (now < s.last) = false := decide_eq_false q1
    have q2 : 4503599627370496 < now := by omega
    have z2 : decide (4503599627370496 < now) = true := decide_eq_true q2
    clear hn
    go_enter Tryd.func38, Tryd.ntmps38
    go_wp2
    go_ret
    exact RetIq.same H.out
set_option maxHeartbeats 4000000 in
theorem itell_ok (f : IqF) (s : Qs) (n : Nat) (now : Int) (w : World) (h : IqM Bs w f s) (hI : QI n s) (hc : timeC s now = true) :
    Calls Tryd.prog 38 #[.pointer (some ⟨f.p, 0, none⟩), .int .i64 now] w (RetIq Bs f s (s.at' now) (.int .i64 0) w) := by
  obtain ⟨pA, pc, tA, tc, hR⟩ := h
  have HR := Lib.hid hR
  have HP0 : Hid (1 ≤ (qIC s).prio.length) := Lib.hid (qIC_ok hI).len1
  obtain ⟨x, y⟩ := box_rules hR.box
  have l := box_lt hR.box
  have h0 := hI.last
  have hn : 0 ≤ now ∧ now ≤ 4503599627370496 ∧ s.last ≤ now := of_decide_eq_true hc
  have HLe : Hid (s.last ≤ now) := Lib.hid hn.2.2
  have q1 : ¬ now < s.last := by omega
  have q2 : ¬ 4503599627370496 < now := by omega
  have z1 : decide (now < s.last) = false := decide_eq_false q1
  have z2 : decide (4503599627370496 < now) = false := decide_eq_false q2
  clear hR hI hc hn
  go_enter Tryd.func38, Tryd.ntmps38
  go_wp2
  go_ret
  have hps : f.p ∈ qL f s := mem_qL.2 (.inl rfl)
  have hT : Tn [f.p] w (w.setCell ⟨f.p, 10, none⟩ (.int .i64 now)) := (Tn.refl _ _).setCell (p := ⟨f.p, 10, none⟩) (by simp) _
  have hE := box_set (i := 10) HR.out.box (.int .i64 now)
  have hrows := HR.out.rows
  refine ⟨rfl, f, rfl, ⟨pA, pc, tA, tc, HR.out.upd (s' := s.at' now) rfl hE (HR.out.rp.tn hT (fun a ha hm => (HR.out.op a ha).2 (by rw [List.mem_singleton.1 hm]; exact hps))) ?_ (fun a ha => (HR.out.op a ha).2) (fun a ha hb => (HR.out.ot a ha hb).2) HP0.out ?_ ?_ ?_ rfl rfl HR.out.bp HR.out.bt hT.size⟩, fun k hk => .inl hk, hT.mono (fun k hk => by rw [List.mem_singleton.1 hk]; exact hps)⟩
  · by_cases hb : s.bs = []
    · show Rd _ tA ((s.bs.map fun b => (b.line : Int)).map (.int .i64))
      rw [hb]; exact Rd.nil _ _
    · exact HR.out.rt.tn hT (fun a ha hm => (HR.out.ot a ha hb).2 (by rw [List.mem_singleton.1 hm]; exact hps))
  · exact own_tnq HR.out.ll hT (fun b hb hm => by
      cases ha : f.lA with
      | none => rw [ha] at hb; cases hb
      | some a => rw [ha] at hb; injection hb with hb; exact (hrows.1 a ha) (hb.trans (List.mem_singleton.1 hm)))
  · exact own_tnq HR.out.sl hT (fun b hb hm => by
      cases ha : f.sA with
      | none => rw [ha] at hb; cases hb
      | some a => rw [ha] at hb; injection hb with hb; exact (hrows.2.1 a ha) (hb.trans (List.mem_singleton.1 hm)))
  · intro x hx
    have hap := HR.out.apart hx
    exact (HR.out.ms x hx).tn hT (fun hm => hap.1.1 (List.mem_singleton.1 hm)) (fun hm => hap.1.2 (List.mem_singleton.1 hm)) HLe.out
theorem put_llx {s : Qs} {i : Nat} {x : Lq} (hi : i < s.ls.length) (hx : lmc x = lmc (s.ln i)) : (s.put i x).ls.flatMap lmc = s.ls.flatMap lmc := by
  rw [List.flatMap_def, List.flatMap_def, put_map lmc hi hx]
/-- What Enter of a line's mask leaves. -/
def RetIe (Bs : Nat → Prop) (f : IqF) (s : Qs) (i : Nat) (w : World) (e : Ending) (w' : World) : Prop :=
  if ((s.ln i).look s.last).full = true then e = .returned (.int .i64 15) ∧ IqM Bs w' f (s.put i ((s.ln i).look s.last)) ∧ Tn (qL f s) w w' ∧ qL f (s.put i ((s.ln i).look s.last)) = qL f s
  else e = .returned (.int .i64 0) ∧ IqM Bs w' f (s.put i ((s.ln i).enter s.last)) ∧ Tn (qL f s) w w' ∧ qL f (s.put i ((s.ln i).enter s.last)) = qL f s
/-- A line's mask turned. -/
theorem IqR.mask {w w' : World} {f : IqF} {s : Qs} {pA : Option Addr} {pc : Nat} {tA : Option Addr} {tc : Nat} {n : Nat} (h : IqR Bs w f s pA pc tA tc) (hI : QI n s) {i : Nat} (hi : i < s.ls.length) {x : Lq} (h1 : x.how = (s.ln i).how) (h2 : x.masked = (s.ln i).masked) (h3 : x.pending = (s.ln i).pending) (h4 : lmc x = lmc (s.ln i)) (h5 : x.mb = (s.ln i).mb) (h6 : x.mg = (s.ln i).mg)
    (ht : Tn [(s.ln i).mb, (s.ln i).mg] w w') (mx : MkR w' s.last x) : IqM Bs w' f (s.put i x) ∧ Tn (qL f s) w w' ∧ qL f (s.put i x) = qL f s := by
  have hap := h.apart (ln_mem hi)
  have hin : ∀ k ∈ [(s.ln i).mb, (s.ln i).mg], k ∈ qL f s := fun k hk => by
    rcases List.mem_cons.1 hk with rfl | hk
    · exact mem_qL.2 (.inr (.inr (.inr (.inl ⟨_, ln_mem hi, rfl⟩))))
    · rw [List.mem_singleton.1 hk]; exact mem_qL.2 (.inr (.inr (.inr (.inr ⟨_, ln_mem hi, rfl⟩))))
  refine ⟨⟨pA, pc, tA, tc, h.put hi h5 h6 ht (fun k hk => ?_) ?_ ?_ ?_ (fun a ha => (h.op a ha).2) (fun a ha hb => (h.ot a ha hb).2) ?_ ?_ mx h.bp h.bt⟩, ht.mono hin, put_qL hi h5 h6⟩
  · rw [h5, h6]
    rcases List.mem_cons.1 hk with rfl | hk
    · exact .inr (.inr (.inl rfl))
    · exact .inr (.inr (.inr (List.mem_singleton.1 hk)))
  · rw [qIC_same hI hi h1 h2 h3, mB_put hi h2]
    refine ht.box h.box (fun hm => ?_)
    rcases List.mem_cons.1 hm with e | e
    · exact hap.1.1 e.symm
    · exact hap.1.2 (List.mem_singleton.1 e).symm
  · rw [qIC_same hI hi h1 h2 h3]
    exact h.rp.tn ht (fun a ha hm => (h.op a ha).2 (hin _ hm))
  · rw [qIC_same hI hi h1 h2 h3]
    by_cases hb : s.bs = []
    · show Rd _ tA ((s.bs.map fun b => (b.line : Int)).map (.int .i64))
      rw [hb]; exact Rd.nil _ _
    · exact h.rt.tn ht (fun a ha hm => (h.ot a ha hb).2 (hin _ hm))
  · rw [qIC_same hI hi h1 h2 h3]; exact (qIC_ok hI).len1
  · rw [put_llx hi h4]
    exact own_tnq h.ll ht (fun b hb hm => by
      cases ha : f.lA with
      | none => rw [ha] at hb; cases hb
      | some a =>
        rw [ha] at hb; injection hb with hb
        have q := hap.2.1 a ha
        rcases List.mem_cons.1 hm with e | e
        · exact q.1 (by rw [← e, ← hb])
        · exact q.2 (by rw [← List.mem_singleton.1 e, ← hb]))
theorem enter_full {x : Lq} {now : Int} (h : (x.look now).full = true) : x.enter now = x.look now := if_pos h
theorem enter_free {x : Lq} {now : Int} (h : ¬ (x.look now).full = true) : x.enter now = { x.look now with L := (x.look now).L ++ [now] } := if_neg h
theorem ienter_any (f : IqF) (s : Qs) (n i : Nat) (w : World) (h : IqM Bs w f s) (hI : QI n s) (hi : i < s.ls.length) :
    Calls Tryd.prog 40 #[.pointer (some ⟨(s.ln i).mb, 0, none⟩), .int .i64 s.last] w (RetIe Bs f s i w) := by
  obtain ⟨pA, pc, tA, tc, hR⟩ := h
  have g := hI.line hi
  obtain ⟨many, ml, fi, rf, ring, q1, q2, hm⟩ := hR.ms _ (ln_mem hi)
  refine (menter_ok (s.ln i).mb (s.ln i).mg many (s.ln i).how.window (s.ln i).L ml fi rf ring s.last w hm g.sort q2 hI.last.2 hI.last.1 g.window).mono fun e w' hq => ?_
  have hlk : ((s.ln i).look s.last).L = backL s.last (s.ln i).how.window (s.ln i).L := rfl
  have hle := backL_len s.last (s.ln i).how.window (s.ln i).L
  have hlm := hm.len
  have hfull : ((s.ln i).look s.last).full = true ↔ (backL s.last (s.ln i).how.window (s.ln i).L).length = many := by
    unfold Lq.full
    rw [decide_eq_true_iff, hlk]
    show (s.ln i).how.many ≤ _ ↔ _
    rw [q1]
    omega
  unfold RetMe at hq
  unfold RetIe
  by_cases hf : (backL s.last (s.ln i).how.window (s.ln i).L).length = many
  · rw [if_pos hf] at hq
    rw [if_pos (hfull.2 hf)]
    obtain ⟨rfl, fi', rf', ring', hm', ht'⟩ := hq
    exact ⟨rfl, hR.mask (x := (s.ln i).look s.last) hI hi rfl rfl rfl rfl rfl rfl ht' ⟨many, s.last, fi', rf', ring', q1, Int.le_refl _, hm'⟩⟩
  · rw [if_neg hf] at hq
    have hnf : ¬ ((s.ln i).look s.last).full = true := fun h9 => hf (hfull.1 h9)
    rw [if_neg hnf]
    obtain ⟨rfl, fi', rf', ring', hm', ht'⟩ := hq
    rw [enter_free hnf]
    exact ⟨rfl, hR.mask (x := { (s.ln i).look s.last with L := ((s.ln i).look s.last).L ++ [s.last] }) hI hi rfl rfl rfl rfl rfl rfl ht' ⟨many, s.last, fi', rf', ring', q1, Int.le_refl _, hm'⟩⟩
end Go.Proofs.YtpncbkodhojicaaDoor

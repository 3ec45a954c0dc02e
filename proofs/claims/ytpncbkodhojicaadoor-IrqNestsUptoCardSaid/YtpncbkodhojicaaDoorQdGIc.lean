/- Package irq: lines as an object: what each call comes to, and what stays. Conditions: lines' memory beyond a caller's own. -/
import Derived.Test.YtpncbkodhojicaaDoorQdFIc
import Derived.Test.YtpncbkodhojicaaDoorQaVIc
namespace Go.Proofs.YtpncbkodhojicaaDoor
open Go.RowKit Go.Shelf
attribute [local go_sem] Oper.semAt_some
/-- Lines that were made behind w, apart from M. -/
def IqO (w : World) (p : Nat) (M : List Nat) (s : Qs) (W : World) : Prop := ∃ f, f.p = p ∧ IqM (fun b => b ∈ M) W f s ∧ (∀ k ∈ qL f s, w.heap.size ≤ k ∧ k ∉ M)
/-- What lay below w, and M, stands. -/
def KpM (w : World) (M : List Nat) (W W' : World) : Prop := ∃ F, Tn F W W' ∧ ∀ k ∈ F, w.heap.size ≤ k ∧ k ∉ M
section
variable {w W W' W2 : World} {p : Nat} {M : List Nat} {s s' : Qs}
theorem KpM.refl (w : World) (M : List Nat) (W : World) : KpM w M W W := ⟨[], Tn.refl _ _, fun _ h => by cases h⟩
theorem KpM.of_below (h : Below W.heap.size W W') : KpM w M W W' := ⟨[], Tn.of_below _ h, fun _ h => by cases h⟩
theorem KpM.trans (h : KpM w M W W') (h2 : KpM w M W' W2) : KpM w M W W2 := by
  obtain ⟨F, ht, hF⟩ := h
  obtain ⟨G, hg, hG⟩ := h2
  exact ⟨F ++ G, (ht.mono (fun k hk => List.mem_append_left _ hk)).trans (hg.mono (fun k hk => List.mem_append_right _ hk)), fun k hk => (List.mem_append.1 hk).elim (hF k) (hG k)⟩
theorem KpM.size (h : KpM w M W W') : W.heap.size ≤ W'.heap.size := by obtain ⟨F, ht, _⟩ := h; exact ht.size
theorem KpM.box (h : KpM w M W W') {b : Nat} {o : Obj} (hb : W.heap[b]? = some o) (hM : b ∈ M) : W'.heap[b]? = some o := by
  obtain ⟨F, ht, hF⟩ := h
  exact ht.box hb (fun hm => (hF b hm).2 hM)
theorem KpM.low (h : KpM w M W W') {b : Nat} {o : Obj} (hb : W.heap[b]? = some o) (hM : b < w.heap.size) : W'.heap[b]? = some o := by
  obtain ⟨F, ht, hF⟩ := h
  exact ht.box hb (fun hm => by have := (hF b hm).1; omega)
theorem KpM.below (h : KpM w M W W') (h0 : Below w.heap.size w W) : Below w.heap.size w W' := by
  obtain ⟨F, ht, hF⟩ := h
  exact ht.base h0 (fun k hk => (hF k hk).1) h0.size
theorem KpM.rd (h : KpM w M W W') {A : Option Addr} {vs : List Value} (hr : Rd W A vs) (hA : ∀ a, A = some a → a.block < w.heap.size ∨ a.block ∈ M) : Rd W' A vs := by
  obtain ⟨F, ht, hF⟩ := h
  exact hr.tn ht (fun a ha hm => by have := hF _ hm; rcases hA a ha with q | q; · omega
                                    · exact this.2 q)
theorem IqO.step {F : FuncId} {args : Array Value} {v : Value} (h : IqO w p M s W) (hc : ∀ f, f.p = p → IqM (fun b => b ∈ M) W f s → (∀ k ∈ qL f s, w.heap.size ≤ k) → Calls Tryd.prog F args W (RetIq (fun b => b ∈ M) f s s' v W)) : Calls Tryd.prog F args W fun e W' => e = .returned v ∧ IqO w p M s' W' ∧ KpM w M W W' := by
  obtain ⟨f, hf, hm, hq⟩ := h
  have hM := hm.bl
  refine (hc f hf hm (fun k hk => (hq k hk).1)).mono fun e W' hr => ?_
  obtain ⟨rfl, f', h1, h2, h3, h4⟩ := hr
  refine ⟨rfl, ⟨f', h1.trans hf, h2, fun k hk => ?_⟩, qL f s, h4, hq⟩
  rcases h3 k hk with h5 | h5
  · exact hq k h5
  · have h6 := hm.lt f.p (mem_qL.2 (.inl rfl))
    have h7 := (hq f.p (mem_qL.2 (.inl rfl))).1
    exact ⟨by omega, fun hm => by have := hM k hm; omega⟩
theorem IqO.below (h : IqO w p M s W) (hb : Below W.heap.size W W') : IqO w p M s W' := by
  obtain ⟨f, hf, hm, hq⟩ := h
  exact ⟨f, hf, hm.below hb, hq⟩
theorem IqO.lt (h : IqO w p M s W) : ∀ k ∈ M, k < W.heap.size := by
  obtain ⟨f, hf, hm, hq⟩ := h
  exact hm.bl
/-- A caller writes what is its own. -/
theorem IqO.tn {F : List Nat} (h : IqO w p M s W) (ht : Tn F W W') (hF : ∀ k ∈ F, k ∈ M ∨ W.heap.size ≤ k) : IqO w p M s W' := by
  obtain ⟨f, hf, ⟨pA, pc, tA, tc, hm⟩, hq⟩ := h
  have hlt := hm.lt
  refine ⟨f, hf, ⟨pA, pc, tA, tc, hm.tn ht (fun k hk hm2 => ?_) (fun a ha hm2 => ?_) (fun a ha hb hm2 => ?_)⟩, hq⟩
  · rcases hF k hm2 with h1 | h1
    · exact (hq k hk).2 h1
    · have := hlt k hk; omega
  · rcases hF _ hm2 with h1 | h1
    · exact hm.bp a ha h1
    · have := (hm.op a ha).1; omega
  · rcases hF _ hm2 with h1 | h1
    · exact hm.bt a ha hb h1
    · have := (hm.ot a ha hb).1; omega
/-- A caller writes what is its own, and has blocks that came since. -/
theorem IqO.grow {F M' : List Nat} (h : IqO w p M s W) (ht : Tn F W W') (hF : ∀ k ∈ F, k ∈ M ∨ W.heap.size ≤ k) (hM : ∀ b ∈ M', b ∈ M ∨ (W.heap.size ≤ b ∧ b < W'.heap.size)) : IqO w p M' s W' := by
  have hl := h.lt
  obtain ⟨f, hf, ⟨pA, pc, tA, tc, hm⟩, hq⟩ := h
  have hlt := hm.lt
  have h2 : IqR (fun b => b ∈ M) W' f s pA pc tA tc := hm.tn ht (fun k hk hm2 => by
    rcases hF k hm2 with h1 | h1
    · exact (hq k hk).2 h1
    · have := hlt k hk; omega) (fun a ha hm2 => by
    rcases hF _ hm2 with h1 | h1
    · exact hm.bp a ha h1
    · have := (hm.op a ha).1; omega) (fun a ha hb hm2 => by
    rcases hF _ hm2 with h1 | h1
    · exact hm.bt a ha hb h1
    · have := (hm.ot a ha hb).1; omega)
  refine ⟨f, hf, ⟨pA, pc, tA, tc, { box := h2.box, rp := h2.rp, rt := h2.rt, op := h2.op, ot := h2.ot, ll := h2.ll, sl := h2.sl, ms := h2.ms, nb := h2.nb, ng := h2.ng, bp := fun a ha hx => ?_, bt := fun a ha hs hx => ?_, bl := fun b hx => ?_ }⟩, fun k hk => ⟨(hq k hk).1, fun hx => ?_⟩⟩
  · rcases hM _ hx with h1 | h1
    · exact hm.bp a ha h1
    · have := (hm.op a ha).1; omega
  · rcases hM _ hx with h1 | h1
    · exact hm.bt a ha hs h1
    · have := (hm.ot a ha hs).1; omega
  · rcases hM _ hx with h1 | h1
    · exact Nat.lt_of_lt_of_le (hl b h1) ht.size
    · exact h1.2
  · rcases hM _ hx with h1 | h1
    · exact (hq k hk).2 h1
    · have := hlt k hk; omega
theorem IqO.drewN (h : IqO w p M s W) (n : Nat) : IqO w p M s (W.drewN n) := h.tn ((Tn.refl [] W).drewN n) (by simp)
/-- Blocks that came since are apart. -/
theorem IqO.more {M' : List Nat} (h : IqO w p M s W) (hb : Below W.heap.size W W') (hM : ∀ b ∈ M', b ∈ M ∨ (W.heap.size ≤ b ∧ b < W'.heap.size)) : IqO w p M' s W' := by
  obtain ⟨f, hf, ⟨pA, pc, tA, tc, hm⟩, hq⟩ := h
  have hlt := hm.lt
  have h2 := hm.below hb
  refine ⟨f, hf, ⟨pA, pc, tA, tc, { box := h2.box, rp := h2.rp, rt := h2.rt, op := h2.op, ot := h2.ot, ll := h2.ll, sl := h2.sl, ms := h2.ms, nb := h2.nb, ng := h2.ng, bp := fun a ha hx => ?_, bt := fun a ha hs hx => ?_, bl := fun b hx => ?_ }⟩, fun k hk => ⟨(hq k hk).1, fun hx => ?_⟩⟩
  · rcases hM _ hx with h1 | h1
    · exact hm.bp a ha h1
    · have := (hm.op a ha).1; omega
  · rcases hM _ hx with h1 | h1
    · exact hm.bt a ha hs h1
    · have := (hm.ot a ha hs).1; omega
  · rcases hM _ hx with h1 | h1
    · exact Nat.lt_of_lt_of_le (hm.bl b h1) hb.size
    · exact h1.2
  · rcases hM _ hx with h1 | h1
    · exact (hq k hk).2 h1
    · have := hlt k hk; omega
theorem IqO.alloc (h : IqO w p M s W) (o : Obj) : IqO w p (W.heap.size :: M) s (W.alloc o) := h.more ((Below.refl _ _).alloc (Nat.le_refl _) _) (fun b hb => by
  rcases List.mem_cons.1 hb with rfl | hb
  · exact .inr ⟨Nat.le_refl _, by simp⟩
  · exact .inl hb)
end
theorem IqM.weak {Bs Bs' : Nat → Prop} {W : World} {f : IqF} {s : Qs} (h : IqM Bs W f s) (hB : ∀ b, Bs' b → Bs b) : IqM Bs' W f s := by
  obtain ⟨pA, pc, tA, tc, h2⟩ := h
  exact ⟨pA, pc, tA, tc, { box := h2.box, rp := h2.rp, rt := h2.rt, op := h2.op, ot := h2.ot, ll := h2.ll, sl := h2.sl, ms := h2.ms, nb := h2.nb, ng := h2.ng, bp := fun a ha hx => h2.bp a ha (hB _ hx), bt := fun a ha hs hx => h2.bt a ha hs (hB _ hx), bl := fun b hx => h2.bl b (hB _ hx) }⟩
theorem IqO.weak {w W : World} {p : Nat} {M M' : List Nat} {s : Qs} (h : IqO w p M s W) (hM : ∀ b ∈ M', b ∈ M) : IqO w p M' s W := by
  obtain ⟨f, hf, hm, hq⟩ := h
  exact ⟨f, hf, hm.weak hM, fun k hk => ⟨(hq k hk).1, fun h9 => (hq k hk).2 (hM k h9)⟩⟩
def takeA (s : Qs) (now : Int) : Qs × Int × Bool × Int := if timeC s now = true then ((takeS now (s.ls.length + 1) (s.at' now)).1, (takeS now (s.ls.length + 1) (s.at' now)).2.1, (takeS now (s.ls.length + 1) (s.at' now)).2.2, 0) else (s, 0, false, 1)
def unmA (s : Qs) (now : Int) : Qs × List Int × Int := if timeC s now = true then (unmaskS s now, (freed s now s.ls.length).map fun i : Nat => (i : Int), 0) else (s, [], 1)
def actA (s : Qs) : Int × Bool := if s.bs.length = 0 then (0, false) else (s.act.line, true)
section
variable {w W : World} {p : Nat} {M : List Nat} {s : Qs} {n : Nat}
theorem o_raise (h : IqO w p M s W) (hI : QI n s) (hn : n ≤ 1048576) (line top bottom : Int) :
    Calls Tryd.prog 19 #[.pointer (some ⟨p, 0, none⟩), .int .i64 line, .int .i64 top, .int .i64 bottom] W fun e W' => e = .returned (.int .i64 (raiseC s line top bottom)) ∧ IqO w p M (raiseS s line top bottom) W' ∧ KpM w M W W' :=
  h.step fun f hf hm _ => by subst hf; exact iraise_any f s n line top bottom W hm hI hn
theorem o_run (h : IqO w p M s W) (hI : QI n s) (k : Int) :
    Calls Tryd.prog 23 #[.pointer (some ⟨p, 0, none⟩), .int .i64 k] W fun e W' => e = .returned (.tuple #[runT19 s k, .bool (runD s k), .int .i64 (runC s k)]) ∧ IqO w p M (runS s k) W' ∧ KpM w M W W' :=
  h.step fun f hf hm _ => by subst hf; exact irun_any f s n k W hm hI
theorem o_take (h : IqO w p M s W) (hI : QI n s) (hn : n ≤ 1048576) (hT : Tab W) (hg : 0 < w.heap.size) (now : Int) :
    Calls Tryd.prog 21 #[.pointer (some ⟨p, 0, none⟩), .int .i64 now] W fun e W' => e = .returned (.tuple #[.int .i64 (takeA s now).2.1, .bool (takeA s now).2.2.1, .int .i64 (takeA s now).2.2.2]) ∧ IqO w p M (takeA s now).1 W' ∧ KpM w M W W' :=
  h.step fun f hf hm hq => by
    subst hf
    unfold takeA
    cases hc : timeC s now with
    | true =>
      rw [if_pos rfl]
      exact itake_ok f s n now W hm hI hc hn hT (fun hm => by have := hq _ hm; omega)
    | false =>
      rw [if_neg (by decide)]
      exact itake_bad f s n now W hm hI hc
theorem o_unmask (h : IqO w p M s W) (hI : QI n s) (hT : Tab W) (hg : 0 < w.heap.size) (now : Int) :
    Calls Tryd.prog 22 #[.pointer (some ⟨p, 0, none⟩), .int .i64 now] W fun e W' => ∃ OA oc, e = .returned (.tuple #[.slice OA (unmA s now).2.1.length oc, .int .i64 (unmA s now).2.2]) ∧ Rd W' OA ((unmA s now).2.1.map (.int .i64)) ∧ (∀ a, OA = some a → W.heap.size ≤ a.block ∧ a.block < W'.heap.size) ∧ IqO w p (OA.toList.map (·.block) ++ M) (unmA s now).1 W' ∧ KpM w M W W' := by
  obtain ⟨f, hf, hm, hq⟩ := h
  subst hf
  unfold unmA
  cases hc : timeC s now with
  | true =>
    rw [if_pos rfl]
    refine (iunmask_ok f s n now W hm hI hc hT (fun k hk => by have := (hq k hk).1; omega)).mono fun e W' hr => ?_
    obtain ⟨OA, oc, h1, h2, h3, h4, h5, h6⟩ := hr
    exact ⟨OA, oc, h1, h5, h6, ⟨f, rfl, IqM.weak h2 (fun b hb => by
      rcases List.mem_append.1 hb with hb | hb
      · right
        simpa using hb
      · exact .inl hb), fun k hk => ⟨(hq k (h3 k hk)).1, fun hb => by
      rcases List.mem_append.1 hb with hb | hb
      · have hb : ∃ a, OA = some a ∧ a.block = k := by simpa using hb
        obtain ⟨a, ha, rfl⟩ := hb
        have := (h6 a ha).1
        have := hm.lt _ (h3 _ hk)
        omega
      · exact (hq k (h3 k hk)).2 hb⟩⟩, qL f s, h4, hq⟩
  | false =>
    rw [if_neg (by decide)]
    refine (iunmask_bad f s n now W hm hI hc).mono fun e W' hr => ?_
    obtain ⟨rfl, f', h1, h2, h3, h4⟩ := hr
    refine ⟨none, 0, rfl, Rd.nil _ _, fun a ha => (by cases ha), ⟨f', h1, h2, fun k hk => ?_⟩, qL f s, h4, hq⟩
    rcases h3 k hk with h5 | h5
    · exact hq k h5
    · have h6 := hm.lt f.p (mem_qL.2 (.inl rfl))
      have h7 := (hq f.p (mem_qL.2 (.inl rfl))).1
      exact ⟨by omega, fun hm2 => by have := hm.bl k hm2; omega⟩
theorem o_next (h : IqO w p M s W) (hI : QI n s) (hT : Tab W) :
    Calls Tryd.prog 11 #[.pointer (some ⟨p, 0, none⟩)] W fun e W' => e = .returned (.tuple #[.int .i64 (nextM s s.ls.length).1, .bool (nextM s s.ls.length).2]) ∧ Below W.heap.size W W' := by
  obtain ⟨f, hf, hm, hq⟩ := h
  subst hf
  exact inext_any f s n W hm hI hT
theorem o_active (h : IqO w p M s W) (hI : QI n s) :
    Calls Tryd.prog 9 #[.pointer (some ⟨p, 0, none⟩)] W fun e W' => e = .returned (.tuple #[.int .i64 (actA s).1, .bool (actA s).2]) ∧ W = W' := by
  obtain ⟨f, hf, hm, hq⟩ := h
  subst hf
  unfold actA
  by_cases hb : s.bs.length = 0
  · rw [if_pos hb]; exact iactive_no f s W hm hb
  · rw [if_neg hb]; exact iactive_yes f s n W hm hI (by omega)
theorem o_left (h : IqO w p M s W) (hI : QI n s) :
    Calls Tryd.prog 13 #[.pointer (some ⟨p, 0, none⟩)] W fun e W' => e = .returned (.int .i64 (leftS s)) ∧ W = W' := by
  obtain ⟨f, hf, hm, hq⟩ := h
  subst hf
  exact ileft_any f s n W hm hI
theorem o_masked (h : IqO w p M s W) (hI : QI n s) {i : Nat} (hi : i < s.ls.length) :
    Calls Tryd.prog 16 #[.pointer (some ⟨p, 0, none⟩), .int .i64 i] W fun e W' => e = .returned (.bool (s.ln i).masked) ∧ W = W' := by
  obtain ⟨f, hf, hm, hq⟩ := h
  subst hf
  exact imasked_in f s n i W hm hI hi
theorem o_lost (h : IqO w p M s W) {i : Nat} (hi : i < s.ls.length) :
    Calls Tryd.prog 17 #[.pointer (some ⟨p, 0, none⟩), .int .i64 i] W fun e W' => e = .returned (.int .i64 (s.ln i).lost) ∧ W = W' := by
  obtain ⟨f, hf, hm, hq⟩ := h
  subst hf
  exact ilost_in f s i W hm hi
theorem o_served (h : IqO w p M s W) {i : Nat} (hi : i < s.ls.length) :
    Calls Tryd.prog 18 #[.pointer (some ⟨p, 0, none⟩), .int .i64 i] W fun e W' => e = .returned (.int .i64 (s.ln i).served) ∧ W = W' := by
  obtain ⟨f, hf, hm, hq⟩ := h
  subst hf
  exact iserved_in f s i W hm hi
theorem QI.takeA {s : Qs} (h : QI n s) (now : Int) : QI (n + 1) (takeA s now).1 := by
  unfold Proofs.YtpncbkodhojicaaDoor.takeA
  cases hc : timeC s now with
  | true =>
    rw [if_pos rfl]
    exact (QI.take (s.ls.length + 1) (h.at hc)).1
  | false => rw [if_neg (by decide)]; exact h.up (Nat.le_succ n)
theorem QI.unmA {s : Qs} (h : QI n s) (now : Int) : QI n (unmA s now).1 := by
  unfold Proofs.YtpncbkodhojicaaDoor.unmA
  cases hc : timeC s now with
  | true => rw [if_pos rfl]; exact h.unmask hc
  | false => rw [if_neg (by decide)]; exact h
end
end Go.Proofs.YtpncbkodhojicaaDoor

/- A region that draws its order, of reads, quiet calls, and stores that stand in one order: one walk in the text's order serves every order; the world behind it has all stores. F says what the reads need; it abides draws and the stores. No premise of its own. -/
import Derived.Test.YtpncbkodhojicaaDoorRound
namespace Go.Proofs.YtpncbkodhojicaaDoor
open Go.RowKit Go.Shelf

section
variable {P : Program} {ops : Array Oper} {md : Region.Mode} {st : List (Nat × Addr × Value)} {F : World → Prop}

def adv (st : List (Nat × Addr × Value)) (i : Nat) (w : World) : World :=
  match st with
  | [] => w
  | s :: r => bif s.1 == i then w.setCell s.2.1 s.2.2 else adv r i w

def applySt (listed : Array Bool) : List (Nat × Addr × Value) → World → World
  | [], w => w
  | s :: r, w => applySt listed r (if listed.getD s.1 false = true then w.setCell s.2.1 s.2.2 else w)

def gUpon (P : Program) (w w1 : World) (v : Value) : Result Next → Prop
  | .ok (.value u) w' => w' = w1 ∧ u = v
  | .ok .skip w' => w' = w1 ∧ v = undef
  | .ok (.enter f args) w' => w' = w ∧ Calls P f args w (fun e w'' => e = .returned v ∧ ∃ n, w'' = w1.drewN n)
  | _ => False
def gAt (P : Program) (st : List (Nat × Addr × Value)) (i : Nat) (o : Oper) (a : Act) (w : World) (v : Value) : Prop := gUpon P w (adv st i w) v ((execOp a.eval o).run P w)
def gIn (P : Program) (st : List (Nat × Addr × Value)) (F : World → Prop) (i : Nat) (o : Oper) (a : Act) (v : Value) : Prop := ∀ w, F w → gAt P st i o a w v
def gOp (P : Program) (ops : Array Oper) (st : List (Nat × Addr × Value)) (F : World → Prop) (i : Nat) (K : Act → Prop) (a : Act) : Prop :=
  match ops[i]? with
  | none => K a
  | some o => if Region.wanted o (yielded ops a.tmps) = true then ∃ v, gIn P st F i o a v ∧ K (a.put o.dst v) else (∀ w, adv st i w = w) ∧ K (a.put o.dst undef)
def wpAnyG (P : Program) (md : Region.Mode) (ops : Array Oper) (st : List (Nat × Addr × Value)) (F : World → Prop) (Q : Act → Prop) : Nat → Array Bool → Act → Prop
  | 0, listed, a => Region.ready md ops listed = [] ∧ Q a
  | fuel + 1, listed, a =>
    (Region.ready md ops listed = [] → Q a) ∧ ∀ i ∈ Region.ready md ops listed, gOp P ops st F i (wpAnyG P md ops st F Q fuel (listed.setIfInBounds i true)) a
/-- THE WALK IN THE TEXT's ORDER. -/
def wpG (P : Program) (ops : Array Oper) (st : List (Nat × Addr × Value)) (F : World → Prop) (Q : Act → Prop) : List Oper → Nat → Act → Prop
  | [], _, a => Q a
  | o :: rest, k, a => if Region.wanted o (yielded ops a.tmps) = true then ∃ v, gIn P st F k o a v ∧ wpG P ops st F Q rest (k + 1) (a.put o.dst v) else (∀ w, adv st k w = w) ∧ wpG P ops st F Q rest (k + 1) (a.put o.dst undef)

theorem gOp_mono {i : Nat} {a : Act} {K K' : Act → Prop} (h : ∀ a, K a → K' a) (hh : gOp P ops st F i K a) : gOp P ops st F i K' a := by
  unfold gOp at *
  split
  · exact h _ (by simpa [*] using hh)
  · rename_i o ho
    simp only [ho] at hh
    split
    · rename_i hw; simp only [hw, if_true] at hh; obtain ⟨v, h1, h2⟩ := hh; exact ⟨v, h1, h _ h2⟩
    · rename_i hw; simp only [hw] at hh; exact ⟨hh.1, h _ hh.2⟩

/-! the world of a set of operations that have come up -/
theorem adv_drewN (st : List (Nat × Addr × Value)) (i : Nat) (w : World) (n : Nat) : adv st i (w.drewN n) = (adv st i w).drewN n := by
  induction st with
  | nil => rfl
  | cons s r ih => simp only [adv]; cases (s.1 == i) <;> first | rfl | exact ih

theorem apply_none {listed : Array Bool} : ∀ (r : List (Nat × Addr × Value)) (w : World), (∀ s ∈ r, listed.getD s.1 false = false) → applySt listed r w = w
  | [], _, _ => rfl
  | s :: r, w, h => by
    rw [applySt, h s (List.mem_cons_self ..)]
    simp only [Bool.false_eq_true, if_false]
    exact apply_none r w fun t ht => h t (List.mem_cons_of_mem _ ht)

def incr : List Nat → Bool
  | i :: j :: r => decide (i < j) && incr (j :: r)
  | _ => true
theorem incr_tail {i : Nat} {r : List Nat} (h : incr (i :: r) = true) : incr r = true ∧ ∀ j ∈ r, i < j := by
  induction r generalizing i with
  | nil => exact ⟨rfl, fun _ h => by cases h⟩
  | cons j r ih =>
    simp only [incr, Bool.and_eq_true, decide_eq_true_eq] at h
    refine ⟨h.2, fun k hk => ?_⟩
    rcases List.mem_cons.1 hk with rfl | hk
    · exact h.1
    · exact Nat.lt_trans h.1 ((ih h.2).2 k hk)

theorem apply_step {listed : Array Bool} {i : Nat} (hi : i < listed.size) : ∀ (r : List (Nat × Addr × Value)) (w : World), incr (r.map (·.1)) = true → listed.getD i false = false →
    (i ∈ r.map (·.1) → ∀ s ∈ r, i < s.1 → listed.getD s.1 false = false) → applySt (listed.setIfInBounds i true) r w = adv r i (applySt listed r w)
  | [], _, _, _, _ => rfl
  | s :: r, w, hc, h0, hl => by
    obtain ⟨hc1, hc2⟩ := incr_tail hc
    simp only [applySt, adv]
    by_cases he : s.1 = i
    · subst he
      rw [h0]
      have hs : (listed.setIfInBounds s.1 true).getD s.1 false = true := by simp [hi]
      rw [hs]
      simp only [if_true, Bool.false_eq_true, if_false]
      have hn : ∀ t ∈ r, listed.getD t.1 false = false := fun t ht => hl (by simp) t (List.mem_cons_of_mem _ ht) (hc2 _ (List.mem_map_of_mem ht))
      simp only [beq_self_eq_true, cond_true]
      rw [apply_none r w hn]
      refine apply_none r _ fun t ht => ?_
      rw [getD_set_ne false (Nat.ne_of_lt (hc2 _ (List.mem_map_of_mem ht)))]
      exact hn t ht
    · have hb : (s.1 == i) = false := by simpa using he
      rw [hb, cond_false, getD_set_ne false (Ne.symm he)]
      exact apply_step hi r _ hc1 h0 fun hm t ht => hl (by simp only [List.map_cons]; exact List.mem_cons_of_mem _ hm) t (List.mem_cons_of_mem _ ht)

/-- each store waits for the one ahead of it -/
def chainSt (md : Region.Mode) (ops : Array Oper) : List Nat → Bool
  | i :: j :: r => Region.waitsFor md ops j i && chainSt md ops (j :: r)
  | _ => true
def Closed (md : Region.Mode) (ops : Array Oper) (listed : Array Bool) : Prop :=
  ∀ j oj, ops[j]? = some oj → listed.getD j false = true → ∀ e ∈ oj.after, Region.binds md e = true → listed.getD e.on false = true
theorem closed_wait {listed : Array Bool} (hc : Closed md ops listed) {i j : Nat} (hw : Region.waitsFor md ops j i = true) (hj : listed.getD j false = true) : listed.getD i false = true := by
  obtain ⟨oj, ho, e, he, hb, rfl⟩ := Region.waitsFor_spec hw
  exact hc j oj ho hj e he hb
theorem chain_first {listed : Array Bool} (hc : Closed md ops listed) : ∀ (i : Nat) (r : List Nat), chainSt md ops (i :: r) = true → ∀ t ∈ r, listed.getD t false = true → listed.getD i false = true
  | _, [], _, _, ht, _ => by cases ht
  | i, j :: r, h, t, ht, hl => by
    simp only [chainSt, Bool.and_eq_true] at h
    refine closed_wait hc h.1 ?_
    rcases List.mem_cons.1 ht with rfl | ht
    · exact hl
    · exact chain_first hc j r h.2 t ht hl
theorem chain_later {listed : Array Bool} (hc : Closed md ops listed) : ∀ (r : List Nat), chainSt md ops r = true → incr r = true → ∀ i ∈ r, listed.getD i false = false → ∀ t ∈ r, i < t → listed.getD t false = false
  | [], _, _, _, hi, _, _, _, _ => by cases hi
  | j :: r, h, hinc, i, hi, h0, t, ht, hlt => by
    have hr : chainSt md ops r = true := by
      cases r with
      | nil => rfl
      | cons k r => simp only [chainSt, Bool.and_eq_true] at h; exact h.2
    obtain ⟨hi1, hi2⟩ := incr_tail hinc
    rcases List.mem_cons.1 ht with ht' | ht'
    · subst ht'
      rcases List.mem_cons.1 hi with hi' | hi'
      · omega
      · have := hi2 i hi'; omega
    · rcases List.mem_cons.1 hi with hi' | hi'
      · subst hi'
        cases hx : listed.getD t false with
        | false => rfl
        | true => rw [chain_first hc _ r h t ht' hx] at h0; cases h0
      · exact chain_later hc r hr hi1 i hi' h0 t ht' hlt
theorem closed_set {listed : Array Bool} {i : Nat} (hc : Closed md ops listed) (hi : i ∈ Region.ready md ops listed) : Closed md ops (listed.setIfInBounds i true) := by
  obtain ⟨_, oi, hoi, hall⟩ := mem_ready.1 hi
  intro j oj hj hl e he hb
  by_cases hij : i = j
  · subst hij
    have : oj = oi := Option.some.inj (hj.symm.trans hoi)
    subst this
    exact getD_set_true (hall e he hb)
  · rw [getD_set_ne false hij] at hl
    exact getD_set_true (hc j oj hj hl e he hb)

theorem F_apply (hst : ∀ s ∈ st, ∀ w, F w → F (w.setCell s.2.1 s.2.2)) (listed : Array Bool) {w : World} (h : F w) : F (applySt listed st w) := by
  induction st generalizing w with
  | nil => exact h
  | cons s r ih =>
    rw [applySt]
    refine ih (fun t ht => hst t (List.mem_cons_of_mem _ ht)) ?_
    split
    · exact hst s (List.mem_cons_self ..) w h
    · exact h

theorem wpAny_of_G {Q : Act → Prop} {Q' : Exit → Act → World → Prop} {w0 : World} (hsz : ∀ s ∈ st, s.1 < ops.size) (hinc : incr (st.map (·.1)) = true) (hch : chainSt md ops (st.map (·.1)) = true)
    (hF : ∀ listed n, F ((applySt listed st w0).drewN n)) (hQ : ∀ a listed n, Region.ready md ops listed = [] → Closed md ops listed → listed.size = ops.size → Q a → Q' .normal a ((applySt listed st w0).drewN n)) :
    ∀ (fuel : Nat) (listed : Array Bool) (a : Act) (w : World), Closed md ops listed → listed.size = ops.size → (∃ n, w = (applySt listed st w0).drewN n) → wpAnyG P md ops st F Q fuel listed a → wpAny P md ops Q' fuel listed a w
  | 0, listed, a, w, hc, hs, ⟨n, hw⟩, h => ⟨h.1, by rw [hw]; exact hQ a listed n h.1 hc hs h.2⟩
  | fuel + 1, listed, a, w, hc, hs, ⟨n, hw⟩, h => by
    refine ⟨fun h0 => by rw [hw]; exact hQ a listed n h0 hc hs (h.1 h0), fun i hi => ?_⟩
    have hg := h.2 i hi
    obtain ⟨h0, oi, hoi, hall⟩ := mem_ready.1 hi
    have hil : i < listed.size := by rw [hs]; exact (Array.getElem?_eq_some_iff.1 hoi).1
    have h0' : listed.getD i false = false := by
      simp [hil] at h0 ⊢; exact h0
    have hstep : ∀ m, adv st i ((applySt listed st w0).drewN m) = (applySt (listed.setIfInBounds i true) st w0).drewN m := fun m => by
      rw [adv_drewN, apply_step hil st w0 hinc h0' fun hm s hs' hlt => chain_later hc _ hch hinc i hm h0' s.1 (List.mem_map_of_mem hs') hlt]
    have ih : ∀ a' m, wpAnyG P md ops st F Q fuel (listed.setIfInBounds i true) a' → wpAny P md ops Q' fuel (listed.setIfInBounds i true) a' ((applySt (listed.setIfInBounds i true) st w0).drewN m) := fun a' m h' =>
      wpAny_of_G hsz hinc hch hF hQ fuel _ a' _ (closed_set hc hi) (by simpa using hs) ⟨m, rfl⟩ h'
    unfold gOp at hg
    unfold wpOp
    rw [hoi] at hg ⊢
    dsimp only at hg ⊢
    split
    · rename_i hwn
      rw [if_pos hwn] at hg
      obtain ⟨v, hv, hk⟩ := hg
      left
      have hx := hv w (by rw [hw]; exact hF listed n)
      unfold gAt at hx
      rw [hw, hstep n] at hx
      unfold Oper.wp
      rw [hw]
      generalize (execOp a.eval oi).run P ((applySt listed st w0).drewN n) = r at *
      cases r with
      | ok x w' =>
        cases x <;> simp only [gUpon] at hx <;> simp only [Oper.upon]
        case value u => obtain ⟨rfl, rfl⟩ := hx; exact ih _ _ hk
        case skip => obtain ⟨rfl, rfl⟩ := hx; exact ih _ _ hk
        case enter f args =>
          obtain ⟨rfl, hcall⟩ := hx
          exact hcall.mono fun e w'' ⟨he, m, hm⟩ => by subst he; rw [hm, World.drewN_drewN]; exact ih _ _ hk
      | halt x w' => simp only [gUpon] at hx
    · rename_i hwn
      rw [if_neg hwn] at hg
      have := hstep n
      rw [hg.1] at this
      rw [hw, this]
      exact ih _ _ hg.2

/-! taking an operation first -/
def YieldsG (P : Program) (ops : Array Oper) (st : List (Nat × Addr × Value)) (F : World → Prop) (i : Nat) (o : Oper) (v : Value) (a : Act) : Prop :=
  (Region.wanted o (yielded ops a.tmps) = true ∧ gIn P st F i o a v) ∨ (Region.wanted o (yielded ops a.tmps) = false ∧ v = undef ∧ ∀ w, adv st i w = w)
theorem YieldsG.gOp {i : Nat} {o : Oper} {v : Value} {a : Act} (hi : ops[i]? = some o) (hy : YieldsG P ops st F i o v a) {K : Act → Prop} (h : K (a.put o.dst v)) : gOp P ops st F i K a := by
  unfold Go.Proofs.YtpncbkodhojicaaDoor.gOp
  simp only [hi]
  rcases hy with ⟨hw, hv⟩ | ⟨hw, rfl, ha⟩
  · simp only [hw, if_true]; exact ⟨v, hv, h⟩
  · simp only [hw, Bool.false_eq_true, if_false]; exact ⟨ha, h⟩
theorem YieldsG.of_same {i : Nat} {o : Oper} {v : Value} {a a' : Act} (hy : YieldsG P ops st F i o v a) (he : execOp a'.eval o = execOp a.eval o)
    (hw : Region.wanted o (yielded ops a'.tmps) = Region.wanted o (yielded ops a.tmps)) : YieldsG P ops st F i o v a' := by
  unfold YieldsG gIn gAt at *
  rw [he, hw]
  exact hy
theorem yieldsG_of {i : Nat} {o : Oper} {a : Act} {K : Act → Prop} (h : if Region.wanted o (yielded ops a.tmps) = true then ∃ v, gIn P st F i o a v ∧ K (a.put o.dst v) else (∀ w, adv st i w = w) ∧ K (a.put o.dst undef)) : ∃ v, YieldsG P ops st F i o v a ∧ K (a.put o.dst v) := by
  by_cases hw : Region.wanted o (yielded ops a.tmps) = true
  · rw [if_pos hw] at h
    obtain ⟨v, h1, h2⟩ := h
    exact ⟨v, .inl ⟨hw, h1⟩, h2⟩
  · rw [if_neg hw] at h
    exact ⟨undef, .inr ⟨by simpa using hw, rfl, h.1⟩, h.2⟩
theorem gOp_put {i j : Nat} {oi oj : Oper} {v : Value} (hj : ops[j]? = some oj) (hap : oi.apart ops oj = true)
    (hsi : ∀ cs b, oi.op ≠ .select cs b) (hsj : ∀ cs b, oj.op ≠ .select cs b) {K : Act → Prop} {a : Act}
    (hy : YieldsG P ops st F i oi v a) (h : gOp P ops st F j K (a.put oi.dst v)) :
    gOp P ops st F j (fun a' => YieldsG P ops st F i oi v a' ∧ K (a'.put oi.dst v)) a := by
  obtain ⟨h1, h2, h3⟩ := Oper.apart_spec hap
  have keep : ∀ (a : Act), YieldsG P ops st F i oi v a → ∀ u, YieldsG P ops st F i oi v (a.put oj.dst u) := fun a hy u =>
    hy.of_same (execOp_put oi hsi a oj.dst u h3) (wanted_put oi a oj.dst u h3)
  unfold gOp at *
  simp only [hj] at *
  rw [wanted_put oj a oi.dst v h1] at h
  split
  · rename_i hw
    rw [if_pos hw] at h
    obtain ⟨u, hu, hn⟩ := h
    refine ⟨u, fun w hw' => ?_, keep a hy u, by rw [← Act.put_comm a v u h2]; exact hn⟩
    have := hu w hw'
    unfold gAt at *
    rwa [execOp_put oj hsj a oi.dst v h1] at this
  · rename_i hw
    rw [if_neg hw] at h
    exact ⟨h.1, keep a hy _, by rw [← Act.put_comm a v undef h2]; exact h.2⟩

theorem wpAnyG_first {Q : Act → Prop} {i : Nat} {oi : Oper} {v : Value} (hi : ops[i]? = some oi) (hsel : ∀ (j : Nat) (o : Oper) cs b, ops[j]? = some o → o.op ≠ .select cs b) :
    ∀ (fuel : Nat) (listed : Array Bool) (a : Act),
      (∀ j oj, ops[j]? = some oj → j ≠ i → listed.getD j true = false → (∀ e ∈ oj.after, Region.binds md e = true → e.on ≠ i) → oi.apart ops oj = true) →
      i ∈ Region.ready md ops listed → YieldsG P ops st F i oi v a →
      wpAnyG P md ops st F Q fuel (listed.setIfInBounds i true) (a.put oi.dst v) → wpAnyG P md ops st F Q (fuel + 1) listed a := by
  intro fuel
  induction fuel with
  | zero =>
    intro listed a _ hr hy H
    refine ⟨fun h => (by rw [h] at hr; cases hr), fun j hj => ?_⟩
    by_cases hji : j = i
    · subst hji; exact hy.gOp hi H
    · have := ready_mono hj hji
      rw [H.1] at this
      cases this
  | succ fuel ih =>
    intro listed a hfree hr hy H
    refine ⟨fun h => (by rw [h] at hr; cases hr), fun j hj => ?_⟩
    by_cases hji : j = i
    · subst hji; exact hy.gOp hi H
    · have h1 := H.2 j (ready_mono hj hji)
      obtain ⟨hjun, oj, hoj, hall⟩ := mem_ready.1 hj
      have hnot : ∀ e ∈ oj.after, Region.binds md e = true → e.on ≠ i := fun e he hb heq => by
        have h1 := hall e he hb
        have h0 := (mem_ready.1 hr).1
        rw [heq] at h1
        rcases Nat.lt_or_ge i listed.size with h' | h'
        · simp [h'] at h0 h1; rw [h0] at h1; cases h1
        · simp [Array.getElem?_eq_none h'] at h1
      have h2 := gOp_put hoj (hfree j oj hoj hji hjun hnot) (fun cs b => hsel i oi cs b hi) (fun cs b => hsel j oj cs b hoj) hy h1
      have hfree' : ∀ k ok, ops[k]? = some ok → k ≠ i → (listed.setIfInBounds j true).getD k true = false →
          (∀ e ∈ ok.after, Region.binds md e = true → e.on ≠ i) → oi.apart ops ok = true := fun k ok hk hki hun hno => by
        refine hfree k ok hk hki ?_ hno
        by_cases hjk : j = k
        · subst hjk; exact hjun
        · rw [getD_set_ne true hjk] at hun; exact hun
      refine gOp_mono (fun a' h3 => ih (listed.setIfInBounds j true) a' hfree' (ready_mono hr (Ne.symm hji)) h3.1 ?_) h2
      rw [Array.setIfInBounds_comm _ _ hji]
      exact h3.2

theorem wpAnyG_lex {Q : Act → Prop} (hs : Region.noSelect ops = true) : ∀ (l : List Oper) (k : Nat) (listed : Array Bool) (a : Act), (∀ j, l[j]? = ops[k + j]?) →
    Region.lexFrom md ops l.length k listed = true → wpG P ops st F Q l k a → wpAnyG P md ops st F Q l.length listed a
  | [], _, _, _, _, hB, h => ⟨by simpa [Region.lexFrom] using hB, h⟩
  | o :: l, k, listed, a, hl, hB, h => by
    have h0 : ops[k]? = some o := by simpa using (hl 0).symm
    simp only [List.length_cons, Region.lexFrom, Bool.and_eq_true] at hB
    obtain ⟨⟨hr, hf⟩, hB'⟩ := hB
    obtain ⟨v, hy, hK⟩ := yieldsG_of h
    exact wpAnyG_first h0 (Region.noSelect_spec hs) l.length listed a (Region.free_spec h0 hf) (by simpa using hr) hy
      (wpAnyG_lex hs l (k + 1) _ _ (fun j => by have := hl (j + 1); simpa [Nat.add_assoc, Nat.add_comm 1 j] using this) hB' hK)

/-- each operation waits for earlier ones alone -/
def backB (md : Region.Mode) (ops : Array Oper) : Bool := (List.range ops.size).all fun i => match ops[i]? with | some o => o.after.all fun e => !Region.binds md e || decide (e.on < i) | none => true
theorem all_listed {listed : Array Bool} (hb : backB md ops = true) (hr : Region.ready md ops listed = []) (hs : listed.size = ops.size) : ∀ i, i < ops.size → listed.getD i false = true := by
  intro i
  induction i using Nat.strongRecOn with
  | _ i ih =>
    intro hi
    cases hx : listed.getD i false with
    | true => rfl
    | false =>
      exfalso
      have ho : ops[i]? = some ops[i] := Array.getElem?_eq_getElem hi
      have hbi := List.all_eq_true.1 hb i (List.mem_range.2 hi)
      rw [ho] at hbi
      have hm : i ∈ Region.ready md ops listed := by
        rw [mem_ready]
        refine ⟨getD_in (by omega) hx, ops[i], ho, fun e he hbd => ?_⟩
        have h1 := Array.all_eq_true_iff_forall_mem.1 hbi e he
        have h2 : e.on < i := by simpa [hbd] using h1
        exact ih e.on h2 (by omega)
      rw [hr] at hm
      cases hm

/-- all stores, one behind the other -/
def allSt : List (Nat × Addr × Value) → World → World
  | [], w => w
  | s :: r, w => allSt r (w.setCell s.2.1 s.2.2)
theorem apply_all {listed : Array Bool} : ∀ (r : List (Nat × Addr × Value)) (w : World), (∀ s ∈ r, listed.getD s.1 false = true) → applySt listed r w = allSt r w
  | [], _, _ => rfl
  | s :: r, w, h => by
    rw [applySt, h s (List.mem_cons_self ..), if_pos rfl]
    exact apply_all r _ fun t ht => h t (List.mem_cons_of_mem _ ht)

/-- The Bool that the program's text must meet: is: the stores' places. -/
def drawB (ops : Array Oper) (is : List Nat) : Bool := Region.lexB .any ops && is.all (fun i => decide (i < ops.size)) && incr is && chainSt .any ops is && backB .any ops

theorem wpAny_draw {l : List Oper} {Q : Exit → Act → World → Prop} {a : Act} {w : World} (hB : drawB l.toArray (st.map (·.1)) = true)
    (hd : ∀ w, F w → F w.drew) (hst : ∀ s ∈ st, ∀ w, F w → F (w.setCell s.2.1 s.2.2)) (h0 : F w)
    (h : wpG P l.toArray st F (fun a' => ∀ n, Q .normal a' ((allSt st w).drewN n)) l 0 a) :
    wpAny P .any l.toArray Q l.toArray.size (Array.replicate l.toArray.size false) a w.drew := by
  simp only [drawB, Bool.and_eq_true] at hB
  obtain ⟨⟨⟨⟨hlex, hsz⟩, hinc⟩, hch⟩, hback⟩ := hB
  simp only [Region.lexB, Bool.and_eq_true] at hlex
  have hsz' : ∀ s ∈ st, s.1 < l.toArray.size := fun s hs => by
    have := List.all_eq_true.1 hsz s.1 (List.mem_map_of_mem hs)
    simpa using this
  have hdn : ∀ n w, F w → F (w.drewN n) := fun n => by
    induction n with
    | zero => intro w h; exact h
    | succ n ih =>
      intro w h
      have := ih _ (hd _ h)
      rwa [show w.drew = w.drewN 1 from rfl, World.drewN_drewN, Nat.add_comm] at this
  have hd' : ∀ n, allSt st (w.drewN n) = (allSt st w).drewN n := fun n => by
    clear hinc hch hsz hsz' hst h h0
    induction st generalizing w with
    | nil => rfl
    | cons s r ih => exact ih (w := w.setCell s.2.1 s.2.2)
  have hG : wpAnyG P .any l.toArray st F (fun a' => ∀ n, Q .normal a' ((allSt st w).drewN n)) l.toArray.size (Array.replicate l.toArray.size false) a := by
    have := wpAnyG_lex (md := .any) hlex.1 l 0 (Array.replicate l.toArray.size false) a (by simp) (by simpa using hlex.2) h
    simpa using this
  refine wpAny_of_G hsz' hinc hch (w0 := w.drew) (fun listed n => hdn n _ (F_apply hst listed (hd _ h0))) (fun a' listed n hr hc hs hq => ?_) _ _ a w.drew ?_ (by simp) ⟨0, ?_⟩ hG
  · rw [apply_all _ _ fun s hs' => all_listed hback hr hs s.1 (hsz' s hs')]
    have h1 := hd' 1
    have h2 : allSt st w.drew = (allSt st w).drewN 1 := h1
    rw [h2, World.drewN_drewN]
    exact hq (1 + n)
  · intro j oj _ hl
    rw [getD_replicate_false] at hl; cases hl
  · have : applySt (Array.replicate l.toArray.size false) st w.drew = w.drew := apply_none _ _ fun s _ => getD_replicate_false _ _
    rw [this]; rfl

/-- outside a round -/
theorem wp_draw {id : Nat} {l : List Oper} {Q : Exit → Act → World → Prop} {a : Act} {w : World} (st : List (Nat × Addr × Value)) (F : World → Prop) (hm : P.follows .mixedOrders = true) (hB : drawB l.toArray (st.map (·.1)) = true)
    (hd : ∀ w, F w → F w.drew) (hst : ∀ s ∈ st, ∀ w, F w → F (w.setCell s.2.1 s.2.2)) (h0 : F w)
    (h : wpG P l.toArray st F (fun a' => ∀ n, Q .normal a' ((allSt st w).drewN n)) l 0 a) : (Code.region id l.toArray true).wp P Q a w :=
  wp_region_any hm (wpAny_draw hB hd hst h0 h)
/-- in a round -/
theorem round_draw {id lr n : Nat} {l : List Oper} {Q : Exit → Act → World → Prop} {a : Act} {w : World} (st : List (Nat × Addr × Value)) (F : World → Prop) (hq : ¬ LetsOut Q) (hnd : noDefer l = true) (hm : P.follows .mixedOrders = true) (hB : drawB l.toArray (st.map (·.1)) = true)
    (hd : ∀ w, F w → F w.drew) (hst : ∀ s ∈ st, ∀ w, F w → F (w.setCell s.2.1 s.2.2)) (h0 : F w)
    (h : wpG P l.toArray st F (fun a' => ∀ n, Q .normal a' ((allSt st w).drewN n)) l 0 a) : (Code.region id l.toArray true).wpIn (Fence.wide.inRound lr) n P Q a w :=
  wpIn_region_any hm (wpAnyIn_of hq (by simpa using hnd) _ _ _ _ (wpAny_draw hB hd hst h0 h))

/-- one operation of the walk -/
theorem wpG_step {Q : Act → Prop} {a : Act} {o : Oper} {rest : List Oper} {k : Nat}
    (h : ∀ K : Act → Prop, (∀ a, wpG P ops st F Q rest (k + 1) a → K a) → if Region.wanted o (yielded ops a.tmps) = true then ∃ v, gIn P st F k o a v ∧ K (a.put o.dst v) else (∀ w, adv st k w = w) ∧ K (a.put o.dst undef)) : wpG P ops st F Q (o :: rest) k a :=
  h _ fun _ h => h
end
end Go.Proofs.YtpncbkodhojicaaDoor

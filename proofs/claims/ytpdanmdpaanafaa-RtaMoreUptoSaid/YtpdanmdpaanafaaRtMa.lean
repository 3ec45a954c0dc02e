/- A bound with more that may stop it is no less: plain laws, no program in sight. -/
import Derived.Test.YtpdanmdpaanafaaRtUa
namespace Go.Proofs.Ytpdanmdpaanafaa
open Go.RowKit

/-- One by one. -/
def Pair {α β : Type} (R : α → β → Prop) : List α → List β → Prop
  | [], [] => True
  | a :: l, b :: m => R a b ∧ Pair R l m
  | _, _ => False
theorem Pair.app {α β : Type} {R : α → β → Prop} : ∀ {l l2 : List α} {m m2 : List β}, Pair R l m → Pair R l2 m2 → Pair R (l ++ l2) (m ++ m2)
  | [], _, [], _, _, h => h
  | _ :: _, _, _ :: _, _, h, h2 => ⟨h.1, h.2.app h2⟩
theorem Pair.refl {α : Type} {R : α → α → Prop} : ∀ {l : List α}, (∀ a ∈ l, R a a) → Pair R l l
  | [], _ => trivial
  | a :: l, h => ⟨h a (by simp), Pair.refl fun b hb => h b (by simp [hb])⟩
theorem Pair.set {α : Type} {R : α → α → Prop} {d : α} : ∀ {l : List α} {k : Nat} {y : α}, (∀ a ∈ l, R a a) → R (l.getD k d) y → Pair R l (l.set k y)
  | [], _, _, _, _ => trivial
  | _ :: _, 0, _, h, h2 => ⟨h2, Pair.refl fun b hb => h b (by simp [hb])⟩
  | a :: _, _ + 1, _, h, h2 => ⟨h a (by simp), Pair.set (d := d) (fun b hb => h b (by simp [hb])) h2⟩
theorem Pair.length {α β : Type} {R : α → β → Prop} : ∀ {l : List α} {m : List β}, Pair R l m → l.length = m.length
  | [], [], _ => rfl
  | _ :: _, _ :: _, h => by simp [h.2.length]
theorem Pair.get {α β : Type} {R : α → β → Prop} {d : α} {e : β} : ∀ {l : List α} {m : List β} {k : Nat}, Pair R l m → k < l.length → R (l.getD k d) (m.getD k e)
  | _ :: _, _ :: _, 0, h, _ => h.1
  | _ :: _, _ :: _, k + 1, h, hk => h.2.get (k := k) (by simpa using hk)
theorem Pair.fold {α β γ : Type} {R : α → β → Prop} {f : γ → α → γ} {g : γ → β → γ} (hf : ∀ a t u, R t u → f a t = g a u) : ∀ {l : List α} {m : List β} {b : γ}, Pair R l m → l.foldl f b = m.foldl g b
  | [], [], _, _ => rfl
  | _ :: _, _ :: _, _, h => by rw [List.foldl_cons, List.foldl_cons, hf _ _ _ h.1]; exact Pair.fold hf h.2
theorem Pair.fmap {α β : Type} {R : α → α → Prop} {S : β → β → Prop} {q r : α → Bool} {f g : α → β} (hq : ∀ t u, R t u → q t = r u) (hf : ∀ t u, R t u → S (f t) (g u)) : ∀ {l m : List α}, Pair R l m → Pair S ((l.filter q).map f) ((m.filter r).map g)
  | [], [], _ => trivial
  | a :: l, b :: m, h => by
    cases hb : r b with
    | true =>
      rw [List.filter_cons_of_pos hb, List.filter_cons_of_pos (by rw [hq _ _ h.1, hb])]
      exact ⟨hf _ _ h.1, Pair.fmap hq hf h.2⟩
    | false =>
      have ha : q a = false := by rw [hq _ _ h.1, hb]
      rw [List.filter_cons_of_neg (p := q) (by simp [ha]), List.filter_cons_of_neg (p := r) (by simp [hb])]
      exact Pair.fmap hq hf h.2
/-- A load with more cost. -/
def RL (a b : Ld) : Prop := ∃ c : Int, 0 ≤ c ∧ b = { a with cost := a.cost + c }
def RTk (a b : Tk) : Prop := ∃ c : Int, 0 ≤ c ∧ b = { a with cost := a.cost + c }
def RTh (a b : Th) : Prop := ∃ c : Int, 0 ≤ c ∧ b = { a with budget := a.budget + c }
def RLn (a b : Ln) : Prop := ∃ c : Int, 0 ≤ c ∧ 0 ≤ a.many ∧ b = { a with top := a.top + c }
theorem most_rl {a b : Ld} (h : RL a b) (t : Int) : mostN b t = mostN a t := by
  obtain ⟨c, _, rfl⟩ := h
  rfl
theorem totK_pair {l m : List Ld} {t : Int} (h : Pair RL l m) (ho : ∀ x ∈ l, ldOk x = true) (ht : 0 ≤ t ∧ t ≤ 4503599627370496) : ∀ k, k ≤ l.length → totK l t k ≤ totK m t k
  | 0, _ => Int.le_refl _
  | k + 1, hk => by
    have ih := totK_pair h ho ht k (by omega)
    have hr := h.get (d := ld0) (e := ld0) (k := k) (by omega)
    have hm := most_in (ho _ (ld_mem (by omega : k < l.length))) ht
    have he := most_rl hr t
    obtain ⟨c, hc, e⟩ := hr
    have e3 : (m.getD k ld0).cost = (l.getD k ld0).cost + c := by rw [e]
    have h2 := Int.mul_nonneg hm.1 hc
    show totK l t k + _ ≤ totK m t k + _
    rw [he, e3, Int.mul_add]
    omega
theorem supT_map (hs : List Th) (p : Int) : ∀ k, k ≤ hs.length → supT hs p k = ((hs.take k).filter fun t => decide (p < t.prio)).map thL
  | 0, _ => rfl
  | k + 1, h => by
    rw [take_next (d := ⟨0, 0, 0, 0⟩) (by omega), List.filter_append, List.map_append, ← supT_map hs p k (by omega)]
    show supT hs p k ++ _ = _
    congr 1
    by_cases hp : p < (hs.getD k ⟨0, 0, 0, 0⟩).prio
    · rw [if_pos hp, List.filter_cons_of_pos (by simpa using hp)]; rfl
    · rw [if_neg hp, List.filter_cons_of_neg (by simpa using hp)]; rfl
theorem supLn_map (ls : List Ln) : ∀ k, k ≤ ls.length → supLn ls k = ((ls.take k).filter fun _ => true).map lnL
  | 0, _ => rfl
  | k + 1, h => by
    rw [take_next (d := ⟨0, 0, 0, 0⟩) (by omega), List.filter_append, List.map_append, ← supLn_map ls k (by omega)]
    rfl
theorem loads_pair {mn sw sw' : Int} {ts us : List Tk} {ls ms : List Ln} {hs gs : List Th} (p : Int) (h1 : Pair RTk ts us) (h2 : Pair RLn ls ms) (h3 : Pair RTh hs gs) (h4 : sw ≤ sw') : Pair RL (loadsL mn sw ts ls hs p) (loadsL mn sw' us ms gs p) := by
  unfold loadsL supL
  rw [urgL_map _ _ _ _ _ (Nat.le_refl _), urgL_map _ _ _ _ _ (Nat.le_refl _), supT_map _ _ _ (Nat.le_refl _), supT_map _ _ _ (Nat.le_refl _), supLn_map _ _ (Nat.le_refl _), supLn_map _ _ (Nat.le_refl _)]
  simp only [List.take_length]
  refine (Pair.fmap ?_ ?_ h1).app ((Pair.fmap ?_ ?_ h3).app (Pair.fmap ?_ ?_ h2))
  · rintro t u ⟨c, hc, rfl⟩; rfl
  · rintro t u ⟨c, hc, rfl⟩
    exact ⟨c + (sw' - sw), by omega, by unfold urgT lagT; simp only [Ld.mk.injEq, true_and]; omega⟩
  · rintro t u ⟨c, hc, rfl⟩; rfl
  · rintro t u ⟨c, hc, rfl⟩
    exact ⟨c, hc, rfl⟩
  · intros; rfl
  · rintro t u ⟨c, hc, hm, rfl⟩
    exact ⟨t.many * c, Int.mul_nonneg hm hc, by unfold lnL; simp only [Ld.mk.injEq, true_and]; rw [Int.mul_add]⟩
theorem ceil_pair {ts us : List Tk} (h : Pair RTk ts us) (m : Int) : ceilN us m us.length = ceilN ts m ts.length := by
  rw [ceilN_fold _ _ _ (Nat.le_refl _), ceilN_fold _ _ _ (Nat.le_refl _), List.take_length, List.take_length]
  refine (Pair.fold ?_ h).symm
  rintro a t u ⟨c, _, rfl⟩
  rfl
theorem block_pair {ts us : List Tk} (h : Pair RTk ts us) (p : Int) : blockN us p us.length = blockN ts p ts.length := by
  rw [blockN_fold _ _ _ (Nat.le_refl _), blockN_fold _ _ _ (Nat.le_refl _), List.take_length, List.take_length]
  refine (Pair.fold ?_ h).symm
  rintro a t u ⟨c, _, rfl⟩
  unfold blockF blockB
  rw [ceil_pair h]
theorem stGo_low {base : Int} {l : List Ld} {limit r q : Int} (hq : ∀ t, 0 ≤ t → t ≤ q → roundWhy base l t = 0 → roundN base l t ≤ q) : ∀ {f : Nat} {t : Int}, stGo base l limit f t = (r, 0) → 0 ≤ t → t ≤ q → r ≤ q
  | 0, _, h, _, _ => by cases h
  | f + 1, t, h, h1, h2 => by
    unfold stGo at h
    split at h
    · cases h
    · split at h
      · rename_i h4
        injection h with _ h3
        exact absurd h3 h4
      · split at h
        · injection h with h4 _
          omega
        · rename_i h3 h4 h5
          have hz : roundWhy base l t = 0 := by simpa using h4
          obtain ⟨b1, b2, b3, b4, b5, b6, b7⟩ := round_zero hz
          refine stGo_low hq h ?_ (hq t h1 h2 hz)
          have := (allN_in b4).1
          have := (inB_true.1 b2).1
          omega
theorem bound_low {mn sw : Int} {ts : List Tk} {ls : List Ln} {hs : List Th} {x : Tk} {q : Int} (hd : x.deadline ≤ 1099511627776) (hm : 0 ≤ lagT mn x) (h : (boundR mn sw ts ls hs x).2 = 0) (hb : baseN sw ts x ≤ q)
    (hq : ∀ t, 0 ≤ t → t ≤ q → roundWhy (baseN sw ts x) (loadsL mn sw ts ls hs x.prio) t = 0 → roundN (baseN sw ts x) (loadsL mn sw ts ls hs x.prio) t ≤ q) : (boundR mn sw ts ls hs x).1 ≤ q + lagT mn x := by
  unfold boundR at *
  split at h
  · cases h
  · split at h
    · rename_i h1 h2
      obtain ⟨a1, a2, a3, a4, a5, a6⟩ := steps_fix h2
      rw [if_neg h1, if_pos h2]
      have hl : (stepsY (baseN sw ts x) (loadsL mn sw ts ls hs x.prio) (x.deadline - lagT mn x)).1 ≤ q := by
        generalize hS : stepsY (baseN sw ts x) (loadsL mn sw ts ls hs x.prio) (x.deadline - lagT mn x) = S at *
        obtain ⟨r, y⟩ := S
        dsimp only at h2 ⊢
        subst h2
        unfold stepsY at hS
        split at hS
        · cases hS
        · split at hS
          · cases hS
          · exact stGo_low hq hS (by omega) hb
      dsimp only
      unfold wrap64
      omega
    · rename_i h1 h2
      exact absurd h h2
theorem bound_more {mn sw sw' : Int} {ts us : List Tk} {ls ms : List Ln} {hs gs : List Th} {x : Tk} (h1 : Pair RTk ts us) (h2 : Pair RLn ls ms) (h3 : Pair RTh hs gs) (h4 : sw ≤ sw') (hd : x.deadline ≤ 1099511627776) (hm : 0 ≤ lagT mn x)
    (hx : (boundR mn sw ts ls hs x).2 = 0) (hy : (boundR mn sw' us ms gs x).2 = 0) : (boundR mn sw ts ls hs x).1 ≤ (boundR mn sw' us ms gs x).1 := by
  obtain ⟨r, e, g1, g2, g3, g4, g5⟩ := bound_fix hd hm hy
  rw [e]
  have hb : baseN sw ts x ≤ baseN sw' us x := by unfold baseN; rw [block_pair h1]; omega
  refine bound_low hd hm hx (by omega) fun t t0 t1 hz => ?_
  obtain ⟨b1, b2, b3, b4, b5, b6, b7⟩ := round_zero hz
  have hp := loads_pair (mn := mn) x.prio h1 h2 h3 h4
  have hr : 0 ≤ r ∧ r ≤ 4503599627370496 := by omega
  have k1 := totK_mono (lds_in b1).2 t0 t1 _ (Nat.le_refl _)
  have k2 := totK_pair hp (lds_in b1).2 hr _ (Nat.le_refl _)
  have k3 : allN (loadsL mn sw' us ms gs x.prio) r = totK (loadsL mn sw' us ms gs x.prio) r (loadsL mn sw' us ms gs x.prio).length := by unfold allN; rw [if_pos g4]
  rw [← hp.length] at k3
  rw [b6, b7]
  omega
/-- More cost, budget, top. -/
def more (o : Int) (n : Nat) : Prop := 0 ≤ o ∧ o < n
instance (o : Int) (n : Nat) : Decidable (more o n) := by unfold more; infer_instance
def lift (a : Int) : Int := max 0 (min a 1099511627776)
theorem lift_in (a : Int) : 0 ≤ lift a ∧ lift a ≤ 1099511627776 := by unfold lift; omega
def moreT (ts : List Tk) (i o a : Int) : List Tk := if more o ts.length ∧ o ≠ i then ts.set o.toNat { ts.getD o.toNat tk0 with cost := wrap64 ((ts.getD o.toNat tk0).cost + lift a) } else ts
def moreH (hs : List Th) (o a : Int) : List Th := if more o hs.length then hs.set o.toNat { hs.getD o.toNat ⟨0, 0, 0, 0⟩ with budget := wrap64 ((hs.getD o.toNat ⟨0, 0, 0, 0⟩).budget + lift a) } else hs
def moreL (ls : List Ln) (o a : Int) : List Ln := if more o ls.length then ls.set o.toNat { ls.getD o.toNat ⟨0, 0, 0, 0⟩ with top := wrap64 ((ls.getD o.toNat ⟨0, 0, 0, 0⟩).top + lift a) } else ls
theorem moreT_len (ts : List Tk) (i o a : Int) : (moreT ts i o a).length = ts.length := by unfold moreT; split <;> simp
theorem moreH_len (hs : List Th) (o a : Int) : (moreH hs o a).length = hs.length := by unfold moreH; split <;> simp
theorem moreL_len (ls : List Ln) (o a : Int) : (moreL ls o a).length = ls.length := by unfold moreL; split <;> simp
theorem moreT_at {ts : List Tk} {i : Nat} {o a : Int} : (moreT ts (i : Int) o a).getD i tk0 = ts.getD i tk0 := by
  unfold moreT
  split
  · rename_i h
    have hne : o.toNat ≠ i := by have := h.1; unfold more at this; omega
    simp [List.getD, hne]
  · rfl
theorem pair_t {ts : List Tk} {sw i o a : Int} (h : ∀ t ∈ ts, TkIn t sw) : Pair RTk ts (moreT ts i o a) := by
  unfold moreT
  split
  · rename_i hm
    have hlt : o.toNat < ts.length := by have := hm.1; unfold more at this; omega
    have hc := (h _ (getD_mem (d := tk0) hlt))
    have h1 := hc.cost; have h2 := hc.deadline; have h3 := hc.period; have h4 := lift_in a
    refine Pair.set (d := tk0) (fun b _ => ⟨0, Int.le_refl _, by simp⟩) ⟨lift a, (lift_in a).1, ?_⟩
    have e : wrap64 ((ts.getD o.toNat tk0).cost + lift a) = (ts.getD o.toNat tk0).cost + lift a := by unfold wrap64; omega
    rw [e]
  · exact Pair.refl fun b _ => ⟨0, Int.le_refl _, by simp⟩
theorem pair_h {hs : List Th} {o a : Int} (h : ∀ t ∈ hs, ThIn t) : Pair RTh hs (moreH hs o a) := by
  unfold moreH
  split
  · rename_i hm
    have hlt : o.toNat < hs.length := by unfold more at hm; omega
    have hc := (h _ (getD_mem (d := ⟨0, 0, 0, 0⟩) hlt))
    have h1 := hc.budget; have h3 := hc.period; have h4 := lift_in a
    refine Pair.set (d := ⟨0, 0, 0, 0⟩) (fun b _ => ⟨0, Int.le_refl _, by simp⟩) ⟨lift a, (lift_in a).1, ?_⟩
    have e : wrap64 ((hs.getD o.toNat ⟨0, 0, 0, 0⟩).budget + lift a) = (hs.getD o.toNat ⟨0, 0, 0, 0⟩).budget + lift a := by unfold wrap64; omega
    rw [e]
  · exact Pair.refl fun b _ => ⟨0, Int.le_refl _, by simp⟩
theorem pair_l {ls : List Ln} {o a : Int} (h : ∀ t ∈ ls, LnIn t) : Pair RLn ls (moreL ls o a) := by
  unfold moreL
  split
  · rename_i hm
    have hlt : o.toNat < ls.length := by unfold more at hm; omega
    have hc := (h _ (getD_mem (d := ⟨0, 0, 0, 0⟩) hlt))
    have h1 := hc.top; have h3 := hc.many; have h4 := lift_in a
    refine Pair.set (d := ⟨0, 0, 0, 0⟩) (fun b hb => ⟨0, Int.le_refl _, by have := (h b hb).many; omega, by simp⟩) ⟨lift a, (lift_in a).1, by omega, ?_⟩
    have e : wrap64 ((ls.getD o.toNat ⟨0, 0, 0, 0⟩).top + lift a) = (ls.getD o.toNat ⟨0, 0, 0, 0⟩).top + lift a := by unfold wrap64; omega
    rw [e]
  · exact Pair.refl fun b hb => ⟨0, Int.le_refl _, by have := (h b hb).many; omega, by simp⟩
/-- The whole: where both are right and have a bound, the one with more has no less. -/
theorem more_bound {mn mx sw : Int} {ts : List Tk} {ls : List Ln} {hs : List Th} {i : Nat} (o a1 a2 a3 a4 : Int) (h : Cf.why ⟨mn, mx, sw, ts, ls, hs⟩ = 0) (hi : i < ts.length)
    (h1 : (boundR mn sw ts ls hs (ts.getD i tk0)).2 = 0) (h2 : (boundR mn (wrap64 (sw + lift a4)) (moreT ts i o a1) (moreL ls o a3) (moreH hs o a2) ((moreT ts i o a1).getD i tk0)).2 = 0) :
    (boundR mn sw ts ls hs (ts.getD i tk0)).1 ≤ (boundR mn (wrap64 (sw + lift a4)) (moreT ts i o a1) (moreL ls o a3) (moreH hs o a2) ((moreT ts i o a1).getD i tk0)).1 := by
  have hc := cfIn_of h
  have hx := hc.ts _ (getD_mem (d := tk0) hi)
  have q1 := hx.deadline; have q2 := hx.period; have q3 := hc.sw; have q4 := lift_in a4; have q5 := hc.mn
  dsimp only at q1 q2 q3 q5
  have e : wrap64 (sw + lift a4) = sw + lift a4 := by unfold wrap64; omega
  rw [moreT_at] at h2 ⊢
  rw [e] at h2 ⊢
  exact bound_more (pair_t hc.ts) (pair_l hc.ls) (pair_h hc.hs) (by omega) (by omega) (by unfold lagT; split <;> omega) h1 h2
end Go.Proofs.Ytpdanmdpaanafaa

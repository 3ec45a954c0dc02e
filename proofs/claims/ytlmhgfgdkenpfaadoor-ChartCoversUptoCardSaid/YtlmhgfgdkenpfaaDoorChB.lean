/- Packages chart and vergeref39: runs put together, what they cover: plain laws, no program in sight. -/
import Derived.Test.YtlmhgfgdkenpfaaDoorChA
namespace Go.Proofs.YtlmhgfgdkenpfaaDoor
open Go.RowKit

/-- What spans hands over, from x on. -/
def spG (now : Int) : Rn → List Mk → List Rn
  | x, [] => [{ x with tt := now }]
  | x, m :: ms => if m.kind = 11 then { x with tt := m.time } :: spG now ⟨IntKind.u8.wrap m.a, m.who, m.time, 0⟩ ms else spG now x ms
def spL (ms : List Mk) (start now : Int) : List Rn := spG now ⟨0, 0, start, 0⟩ ms
theorem spG_len (now : Int) : ∀ (ms : List Mk) (x : Rn), (spG now x ms).length ≤ ms.length + 1
  | [], _ => Nat.le_refl _
  | m :: ms, x => by
    unfold spG
    split
    · have := spG_len now ms ⟨IntKind.u8.wrap m.a, m.who, m.time, 0⟩
      simp; omega
    · have := spG_len now ms x
      simp; omega
/-- A run behind the others, or put to the last one. -/
def addR (l : List Rn) (x : Rn) : List Rn :=
  if x.ff = x.tt then l
  else if 0 < l.length ∧ (l.getD (l.length - 1) rn0).kind = x.kind ∧ (l.getD (l.length - 1) rn0).who = x.who then l.set (l.length - 1) { l.getD (l.length - 1) rn0 with tt := x.tt }
  else l ++ [x]
theorem addR_len (l : List Rn) (x : Rn) : (addR l x).length ≤ l.length + 1 := by
  unfold addR
  split
  · omega
  · split
    · rw [List.length_set]; omega
    · simp
theorem fold_len : ∀ (xs : List Rn) (l : List Rn), (xs.foldl addR l).length ≤ l.length + xs.length
  | [], l => Nat.le_refl _
  | x :: xs, l => by
    have h1 := fold_len xs (addR l x)
    have h2 := addR_len l x
    simp only [List.foldl_cons, List.length_cons]
    omega
def runsL (ms : List Mk) (start now : Int) : List Rn := (spL ms start now).foldl addR []
theorem runs_len (ms : List Mk) (start now : Int) : (runsL ms start now).length ≤ ms.length + 1 := by
  have h1 := fold_len (spL ms start now) []
  have h2 := spG_len now ms ⟨0, 0, start, 0⟩
  unfold runsL
  unfold spL at *
  simp at h1
  omega
theorem gset_eq {α : Type} {d y : α} : ∀ {l : List α} {i : Nat}, i < l.length → (l.set i y).getD i d = y
  | x :: l, 0, _ => rfl
  | x :: l, i + 1, h => gset_eq (l := l) (i := i) (by simpa using h)
theorem gset_ne {α : Type} {d y : α} : ∀ {l : List α} {i k : Nat}, i ≠ k → (l.set i y).getD k d = l.getD k d
  | [], _, _, _ => rfl
  | _ :: _, 0, 0, h => absurd rfl h
  | _ :: _, 0, _ + 1, _ => rfl
  | _ :: _, _ + 1, 0, _ => rfl
  | _ :: l, i + 1, k + 1, h => gset_ne (l := l) (i := i) (k := k) (by omega)
theorem gapp_lt {α : Type} {d : α} : ∀ {l : List α} {x : α} {k : Nat}, k < l.length → (l ++ [x]).getD k d = l.getD k d
  | _ :: _, _, 0, _ => rfl
  | _ :: l, x, k + 1, h => gapp_lt (l := l) (x := x) (k := k) (by simpa using h)
theorem gapp_eq {α : Type} {d x : α} : ∀ {l : List α}, (l ++ [x]).getD l.length d = x
  | [] => rfl
  | _ :: l => gapp_eq (l := l)
/-- Runs cover the time from s to e. -/
structure Cv (l : List Rn) (s e : Int) : Prop where
  emp : l = [] → s = e
  pos : ∀ i, i < l.length → (l.getD i rn0).ff < (l.getD i rn0).tt
  hd : 0 < l.length → (l.getD 0 rn0).ff = s
  nx : ∀ i, i + 1 < l.length → (l.getD (i + 1) rn0).ff = (l.getD i rn0).tt
  la : 0 < l.length → (l.getD (l.length - 1) rn0).tt = e
  dif : ∀ i, i + 1 < l.length → ¬ ((l.getD i rn0).kind = (l.getD (i + 1) rn0).kind ∧ (l.getD i rn0).who = (l.getD (i + 1) rn0).who)
theorem cv_nil (s : Int) : Cv [] s s := ⟨fun _ => rfl, fun i h => absurd h (by simp), fun h => absurd h (by simp), fun i h => absurd h (by simp), fun h => absurd h (by simp), fun i h => absurd h (by simp)⟩
theorem addR_cv {l : List Rn} {s e : Int} {x : Rn} (h : Cv l s e) (hx : x.ff = e) (hle : x.ff ≤ x.tt) : Cv (addR l x) s x.tt := by
  unfold addR
  split
  · rename_i e1; rw [← e1, hx]; exact h
  · rename_i e1
    split
    · rename_i e2
      obtain ⟨n0, k1, k2⟩ := e2
      have hl : ∀ i, i < l.length → (l.set (l.length - 1) { l.getD (l.length - 1) rn0 with tt := x.tt }).getD i rn0 = if i = l.length - 1 then { l.getD (l.length - 1) rn0 with tt := x.tt } else l.getD i rn0 := fun i hi => by
        by_cases e : i = l.length - 1
        · rw [if_pos e, e, gset_eq (by omega)]
        · rw [if_neg e, gset_ne (fun e2 => e e2.symm)]
      have hp := h.pos (l.length - 1) (by omega)
      have hla := h.la n0
      refine ⟨fun e => by have h9 := congrArg List.length e; rw [List.length_set] at h9; exact absurd h9 (by show l.length ≠ 0; omega), fun i hi => ?_, fun _ => ?_, fun i hi => ?_, fun _ => ?_, fun i hi => ?_⟩
      · rw [List.length_set] at hi
        rw [hl i hi]
        by_cases e3 : i = l.length - 1
        · rw [if_pos e3]
          have h9 : (l.getD (l.length - 1) rn0).tt < x.tt := by omega
          exact Int.lt_trans hp h9
        · rw [if_neg e3]; exact h.pos i hi
      · rw [hl 0 n0]
        split
        · rename_i e3
          show (l.getD (l.length - 1) rn0).ff = s
          rw [← e3]; exact h.hd n0
        · exact h.hd n0
      · rw [List.length_set] at hi
        rw [hl i (by omega), hl (i + 1) hi, if_neg (c := i = l.length - 1) (by omega)]
        by_cases e3 : i + 1 = l.length - 1
        · rw [if_pos e3]; show (l.getD (l.length - 1) rn0).ff = _; rw [← e3]; exact h.nx i hi
        · rw [if_neg e3]; exact h.nx i hi
      · rw [List.length_set, hl _ (by omega), if_pos rfl]
      · rw [List.length_set] at hi
        rw [hl i (by omega), hl (i + 1) hi, if_neg (c := i = l.length - 1) (by omega)]
        by_cases e3 : i + 1 = l.length - 1
        · rw [if_pos e3]
          show ¬ (_ = (l.getD (l.length - 1) rn0).kind ∧ _ = (l.getD (l.length - 1) rn0).who)
          rw [← e3]; exact h.dif i hi
        · rw [if_neg e3]; exact h.dif i hi
    · rename_i e2
      refine ⟨fun e => absurd (congrArg List.length e) (by simp), fun i hi => ?_, fun _ => ?_, fun i hi => ?_, fun _ => ?_, fun i hi => ?_⟩
      · rw [List.length_append, List.length_singleton] at hi
        by_cases e3 : i < l.length
        · rw [gapp_lt e3]; exact h.pos i e3
        · obtain rfl : i = l.length := by omega
          rw [gapp_eq]; omega
      · by_cases e3 : 0 < l.length
        · rw [gapp_lt e3]; exact h.hd e3
        · have hn : l = [] := List.eq_nil_of_length_eq_zero (by omega)
          subst hn
          show x.ff = s
          rw [hx]; exact (h.emp rfl).symm
      · rw [List.length_append, List.length_singleton] at hi
        by_cases e3 : i + 1 < l.length
        · rw [gapp_lt e3, gapp_lt (by omega)]; exact h.nx i e3
        · obtain e4 : i + 1 = l.length := by omega
          rw [e4, gapp_eq, gapp_lt (by omega), hx, show i = l.length - 1 by omega, h.la (by omega)]
      · rw [List.length_append, List.length_singleton, Nat.add_sub_cancel, gapp_eq]
      · rw [List.length_append, List.length_singleton] at hi
        by_cases e3 : i + 1 < l.length
        · rw [gapp_lt e3, gapp_lt (by omega)]; exact h.dif i e3
        · obtain e4 : i + 1 = l.length := by omega
          rw [e4, gapp_eq, gapp_lt (by omega), show i = l.length - 1 by omega]
          exact fun e5 => e2 ⟨by omega, e5⟩
theorem sp_cv (now : Int) {s : Int} : ∀ (ms : List Mk) (x : Rn) (p : Int) (l : List Rn), Cv l s x.ff → x.ff ≤ p → p ≤ now → rgGo now p ms = true → Cv ((spG now x ms).foldl addR l) s now
  | [], x, p, l, h, h1, h2, _ => by
    show Cv (addR l { x with tt := now }) s now
    exact addR_cv (x := { x with tt := now }) h rfl (show x.ff ≤ now by omega)
  | m :: ms, x, p, l, h, h1, h2, hr => by
    unfold rgGo at hr
    split at hr
    · cases hr
    · rename_i hn
      have t1 : p ≤ m.time := by omega
      have t2 : m.time ≤ now := by omega
      unfold spG
      split
      · show Cv ((spG now ⟨IntKind.u8.wrap m.a, m.who, m.time, 0⟩ ms).foldl addR (addR l { x with tt := m.time })) s now
        refine sp_cv now ms _ m.time _ ?_ (Int.le_refl _) t2 hr
        exact addR_cv (x := { x with tt := m.time }) h rfl (show x.ff ≤ m.time by omega)
      · exact sp_cv now ms x m.time l h (by omega) t2 hr
theorem runs_cv {ms : List Mk} {start now : Int} (hs : start ≤ now) (h : rgGo now start ms = true) : Cv (runsL ms start now) start now := sp_cv now ms ⟨0, 0, start, 0⟩ start [] (cv_nil start) (Int.le_refl _) hs h
/-- How long somebody ran. -/
def shR : List Rn → Int → Int → Int
  | [], _, _ => 0
  | x :: l, k, o => (if x.kind = k ∧ x.who = o ∧ x.ff < x.tt then x.tt - x.ff else 0) + shR l k o
theorem shR_app (k o : Int) : ∀ a b : List Rn, shR (a ++ b) k o = shR a k o + shR b k o
  | [], b => by simp [shR]
  | x :: a, b => by
    show _ + shR (a ++ b) k o = _ + shR a k o + shR b k o
    rw [shR_app k o a b]; omega
def hasK (pre : List Rn) (k o : Int) : Bool := pre.any fun y => decide (y.kind = k ∧ y.who = o)
theorem hasK_snoc (pre : List Rn) (y : Rn) (k o : Int) : hasK (pre ++ [y]) k o = (hasK pre k o || decide (y.kind = k ∧ y.who = o)) := by unfold hasK; simp
def sK : List Rn → List Rn → Int
  | [], _ => 0
  | x :: l, pre => (if hasK pre x.kind x.who then x.tt - x.ff else 0) + sK l pre
theorem sK_nil : ∀ l : List Rn, sK l [] = 0
  | [] => rfl
  | x :: l => by show (if hasK [] x.kind x.who then _ else 0) + sK l [] = 0; rw [sK_nil l]; simp [hasK]
theorem sK_old {pre : List Rn} {y : Rn} (h : hasK pre y.kind y.who = true) : ∀ l : List Rn, sK l (pre ++ [y]) = sK l pre
  | [] => rfl
  | x :: l => by
    show (if hasK (pre ++ [y]) x.kind x.who then _ else 0) + sK l (pre ++ [y]) = (if hasK pre x.kind x.who then _ else 0) + sK l pre
    rw [sK_old h l, hasK_snoc]
    by_cases e : y.kind = x.kind ∧ y.who = x.who
    · have h2 : hasK pre x.kind x.who = true := by rw [← e.1, ← e.2]; exact h
      rw [h2]; simp
    · rw [decide_eq_false e]; simp
theorem sK_new {pre : List Rn} {y : Rn} (h : hasK pre y.kind y.who = false) : ∀ l : List Rn, (∀ x ∈ l, x.ff < x.tt) → sK l (pre ++ [y]) = sK l pre + shR l y.kind y.who
  | [], _ => rfl
  | x :: l, hl => by
    have hx := hl x (by simp)
    show (if hasK (pre ++ [y]) x.kind x.who then _ else 0) + sK l (pre ++ [y]) = (if hasK pre x.kind x.who then _ else 0) + sK l pre + ((if x.kind = y.kind ∧ x.who = y.who ∧ x.ff < x.tt then x.tt - x.ff else 0) + shR l y.kind y.who)
    rw [sK_new h l (fun z hz => hl z (by simp [hz])), hasK_snoc]
    by_cases e : y.kind = x.kind ∧ y.who = x.who
    · have h2 : hasK pre x.kind x.who = false := by rw [← e.1, ← e.2]; exact h
      rw [h2, decide_eq_true e, if_pos (by simp), if_neg (by simp), if_pos ⟨e.1.symm, e.2.symm, hx⟩]; omega
    · rw [decide_eq_false e, Bool.or_false, if_neg (c := x.kind = y.kind ∧ x.who = y.who ∧ x.ff < x.tt) (fun e2 => e ⟨e2.1.symm, e2.2.1.symm⟩)]; omega
def allD : List Rn → Int
  | [] => 0
  | x :: l => (x.tt - x.ff) + allD l
theorem sK_all {pre : List Rn} : ∀ l : List Rn, (∀ x ∈ l, x ∈ pre) → sK l pre = allD l
  | [], _ => rfl
  | x :: l, h => by
    show (if hasK pre x.kind x.who then _ else 0) + sK l pre = (x.tt - x.ff) + allD l
    rw [sK_all l (fun z hz => h z (by simp [hz])), if_pos]
    unfold hasK
    exact List.any_eq_true.2 ⟨x, h x (by simp), by simp⟩
theorem cv_tail {x : Rn} {l : List Rn} {s e : Int} (h : Cv (x :: l) s e) : x.ff = s ∧ x.ff < x.tt ∧ Cv l x.tt e := by
  refine ⟨h.hd (by simp), h.pos 0 (by simp), ⟨fun hn => ?_, fun i hi => h.pos (i + 1) (by simp; omega), fun hl => h.nx 0 (by simp; omega), fun i hi => h.nx (i + 1) (by simp; omega), fun hl => ?_, fun i hi => h.dif (i + 1) (by simp; omega)⟩⟩
  · subst hn
    exact h.la (by simp)
  · have := h.la (by simp)
    rw [List.length_cons, Nat.add_sub_cancel, show l.length = (l.length - 1) + 1 by omega] at this
    exact this
theorem cv_all : ∀ {l : List Rn} {s e : Int}, Cv l s e → allD l = e - s ∧ s ≤ e
  | [], s, e, h => by have := h.emp rfl; show (0 : Int) = _ ∧ _; omega
  | x :: l, s, e, h => by
    obtain ⟨h1, h2, h3⟩ := cv_tail h
    have ih := cv_all h3
    show (x.tt - x.ff) + allD l = _ ∧ _
    omega
theorem shR_le (k o : Int) : ∀ {l : List Rn} {s e : Int}, Cv l s e → 0 ≤ shR l k o ∧ shR l k o ≤ e - s
  | [], s, e, h => by have := h.emp rfl; show (0 : Int) ≤ 0 ∧ (0 : Int) ≤ _; omega
  | x :: l, s, e, h => by
    obtain ⟨h1, h2, h3⟩ := cv_tail h
    have ih := shR_le k o h3
    unfold shR
    split <;> omega
/-- The first run that covers a time. -/
def atF (t : Int) : List Rn → Option Rn
  | [] => none
  | x :: l => if x.ff ≤ t ∧ t < x.tt then some x else atF t l
theorem atF_cv (t : Int) : ∀ {l : List Rn} {s e : Int}, Cv l s e → ((atF t l).isSome = true ↔ s ≤ t ∧ t < e)
  | [], s, e, h => by have := h.emp rfl; simp [atF]; omega
  | x :: l, s, e, h => by
    obtain ⟨h1, h2, h3⟩ := cv_tail h
    have ih := atF_cv t h3
    have hle := (cv_all h3).2
    unfold atF
    split
    · rename_i e1; simp; omega
    · rename_i e1
      rw [ih]
      omega
theorem atF_in {t : Int} {x : Rn} : ∀ {l : List Rn}, atF t l = some x → x.ff ≤ t ∧ t < x.tt
  | y :: l, h => by
    unfold atF at h
    split at h
    · rename_i e1; injection h with h; subst h; exact e1
    · exact atF_in h
end Go.Proofs.YtlmhgfgdkenpfaaDoor

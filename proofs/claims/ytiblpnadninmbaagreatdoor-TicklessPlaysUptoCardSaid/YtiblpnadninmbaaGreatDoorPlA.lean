/- Package pool, plain: entries that stand in linked lists, and a pile of free ones: what it is to put one in and to take one out. No program in sight. -/
import Derived.Test.YtiblpnadninmbaaGreatDoorKit
namespace Go.Proofs.YtiblpnadninmbaaGreatDoor
open Go.RowKit

/-- A link: its list, and its neighbours. -/
structure Lk where
  list : Int
  ahead : Int
  behind : Int
/-- A list's ends. -/
structure En where
  first : Int
  last : Int
def lk0 : Lk := ⟨0, 0, 0⟩
def en0 : En := ⟨0, 0⟩
theorem pget_eq {α : Type} {d y : α} : ∀ {l : List α} {i : Nat}, i < l.length → (l.set i y).getD i d = y
  | x :: l, 0, _ => rfl
  | x :: l, i + 1, h => pget_eq (l := l) (i := i) (by simpa using h)
theorem pget_ne {α : Type} {d y : α} : ∀ {l : List α} {i k : Nat}, i ≠ k → (l.set i y).getD k d = l.getD k d
  | [], _, _, _ => rfl
  | _ :: _, 0, 0, h => absurd rfl h
  | _ :: _, 0, _ + 1, _ => rfl
  | _ :: _, _ + 1, 0, _ => rfl
  | _ :: l, i + 1, k + 1, h => pget_ne (l := l) (i := i) (k := k) (by omega)
def hdO (l : List Nat) (q : Int) : Int := match l with | [] => q | x :: _ => (x : Int)
def laO : Int → List Nat → Int
  | p, [] => p
  | _, x :: r => laO (x : Int) r
theorem hdO_app (a b : List Nat) (q : Int) : hdO (a ++ b) q = hdO a (hdO b q) := by cases a <;> rfl
theorem laO_app : ∀ (p : Int) (a b : List Nat), laO p (a ++ b) = laO (laO p a) b
  | _, [], _ => rfl
  | _, x :: a, b => laO_app (x : Int) a b
theorem laO_nat : ∀ (p : Int) (a : List Nat), a ≠ [] → ∃ (c : List Nat) (y : Nat), a = c ++ [y] ∧ laO p a = (y : Int)
  | _, [], h => absurd rfl h
  | _, [x], _ => ⟨[], x, rfl, rfl⟩
  | _, x :: y :: r, _ => by
    obtain ⟨c, z, h1, h2⟩ := laO_nat (x : Int) (y :: r) (by simp)
    exact ⟨x :: c, z, by rw [h1]; rfl, h2⟩
/-- A stretch of a list: what stands in it is linked, from p ahead of it to q behind it. -/
def Seg (ks : List Lk) (k : Int) : Int → List Nat → Int → Prop
  | _, [], _ => True
  | p, x :: r, q => x < ks.length ∧ ks.getD x lk0 = ⟨k, p, hdO r q⟩ ∧ Seg ks k (x : Int) r q
section
variable {ks : List Lk} {k p q : Int}
theorem seg_app : ∀ {a b : List Nat} {p : Int}, Seg ks k p (a ++ b) q ↔ Seg ks k p a (hdO b q) ∧ Seg ks k (laO p a) b q
  | [], b, p => by simp [Seg, laO]
  | x :: a, b, p => by
    show (x < ks.length ∧ ks.getD x lk0 = ⟨k, p, hdO (a ++ b) q⟩ ∧ Seg ks k (x : Int) (a ++ b) q) ↔ (x < ks.length ∧ ks.getD x lk0 = ⟨k, p, hdO a (hdO b q)⟩ ∧ Seg ks k (x : Int) a (hdO b q)) ∧ Seg ks k (laO (x : Int) a) b q
    rw [seg_app (a := a) (b := b), hdO_app]
    constructor
    · rintro ⟨h1, h2, h3, h4⟩; exact ⟨⟨h1, h2, h3⟩, h4⟩
    · rintro ⟨⟨h1, h2, h3⟩, h4⟩; exact ⟨h1, h2, h3, h4⟩
theorem seg_far {i : Nat} (v : Lk) : ∀ {l : List Nat} {p : Int}, Seg ks k p l q → i ∉ l → Seg (ks.set i v) k p l q
  | [], _, _, _ => trivial
  | x :: r, p, h, hi => by
    obtain ⟨h1, h2, h3⟩ := h
    have e : i ≠ x := fun e => hi (by simp [e])
    exact ⟨by rw [List.length_set]; exact h1, by rw [pget_ne e]; exact h2, seg_far v h3 (fun h => hi (by simp [h]))⟩
theorem seg_last {l : List Nat} {x : Nat} {q' : Int} (h : Seg ks k p (l ++ [x]) q) (hx : x ∉ l) : Seg (ks.set x { ks.getD x lk0 with behind := q' }) k p (l ++ [x]) q' := by
  obtain ⟨h1, h2, h3, _⟩ := seg_app.1 h
  refine seg_app.2 ⟨seg_far _ h1 hx, by rw [List.length_set]; exact h2, ?_, trivial⟩
  rw [pget_eq h2, h3]; rfl
theorem seg_first {l : List Nat} {x : Nat} {p' : Int} (h : Seg ks k p (x :: l) q) (hx : x ∉ l) : Seg (ks.set x { ks.getD x lk0 with ahead := p' }) k p' (x :: l) q := by
  obtain ⟨h2, h3, h4⟩ := h
  refine ⟨by rw [List.length_set]; exact h2, ?_, seg_far _ h4 hx⟩
  rw [pget_eq h2, h3]
theorem seg_lt : ∀ {l : List Nat} {p : Int}, Seg ks k p l q → ∀ i ∈ l, i < ks.length
  | x :: r, p, h, i, hi => by
    obtain ⟨h1, _, h3⟩ := h
    rcases List.mem_cons.1 hi with rfl | hi
    · exact h1
    · exact seg_lt h3 i hi
theorem seg_list : ∀ {l : List Nat} {p : Int}, Seg ks k p l q → ∀ i ∈ l, (ks.getD i lk0).list = k
  | x :: r, p, h, i, hi => by
    obtain ⟨_, h2, h3⟩ := h
    rcases List.mem_cons.1 hi with rfl | hi
    · rw [h2]
    · exact seg_list h3 i hi
end
/-- The pile of the free ones. -/
def Pile (ks : List Lk) : List Nat → Prop
  | [] => True
  | x :: r => x < ks.length ∧ ks.getD x lk0 = ⟨-1, -1, hdO r (-1)⟩ ∧ Pile ks r
theorem pile_far {ks : List Lk} {i : Nat} (v : Lk) : ∀ {l : List Nat}, Pile ks l → i ∉ l → Pile (ks.set i v) l
  | [], _, _ => trivial
  | x :: r, h, hi => by
    obtain ⟨h1, h2, h3⟩ := h
    have e : i ≠ x := fun e => hi (by simp [e])
    exact ⟨by rw [List.length_set]; exact h1, by rw [pget_ne e]; exact h2, pile_far v h3 (fun h => hi (by simp [h]))⟩
theorem pile_lt {ks : List Lk} : ∀ {l : List Nat}, Pile ks l → ∀ i ∈ l, i < ks.length
  | x :: r, h, i, hi => by
    obtain ⟨h1, _, h3⟩ := h
    rcases List.mem_cons.1 hi with rfl | hi
    · exact h1
    · exact pile_lt h3 i hi
/-- What a pool's memory holds. -/
structure Po where
  ks : List Lk
  es : List En
  top : Int
  free : Int
def poPut (p : Po) (i k : Nat) : Po :=
  if (p.es.getD k en0).last = -1 then { p with ks := p.ks.set i ⟨k, (p.es.getD k en0).last, -1⟩, es := p.es.set k ⟨i, i⟩ }
  else { p with
    ks := (p.ks.set i ⟨k, (p.es.getD k en0).last, -1⟩).set (p.es.getD k en0).last.toNat { (p.ks.set i ⟨k, (p.es.getD k en0).last, -1⟩).getD (p.es.getD k en0).last.toNat lk0 with behind := i }
    es := p.es.set k ⟨(p.es.getD k en0).first, i⟩ }
def poOut (p : Po) (i : Nat) : Po :=
  let x := p.ks.getD i lk0
  let e := p.es.getD x.list.toNat en0
  let k1 := if x.ahead = -1 then p.ks else p.ks.set x.ahead.toNat { p.ks.getD x.ahead.toNat lk0 with behind := x.behind }
  { p with
    ks := if x.behind = -1 then k1 else k1.set x.behind.toNat { k1.getD x.behind.toNat lk0 with ahead := x.ahead }
    es := p.es.set x.list.toNat ⟨if x.ahead = -1 then x.behind else e.first, if x.behind = -1 then x.ahead else e.last⟩ }
/-- A pool of n entries and m lists: the pile, and the lists. -/
structure PoI (p : Po) (n m : Nat) (pile : List Nat) (ls : Nat → List Nat) : Prop where
  kn : p.ks.length = n
  em : p.es.length = m
  top : p.top = hdO pile (-1)
  free : p.free = pile.length
  pl : Pile p.ks pile
  le : ∀ k, k < m → p.es.getD k en0 = ⟨hdO (ls k) (-1), laO (-1) (ls k)⟩
  ll : ∀ k, k < m → Seg p.ks k (-1) (ls k) (-1)
  np : pile.Nodup
  nl : ∀ k, k < m → (ls k).Nodup
  ap : ∀ k, k < m → ∀ i ∈ ls k, i ∉ pile
  al : ∀ k, k < m → ∀ k', k' < m → ∀ i, i ∈ ls k → i ∈ ls k' → k = k'
/-- An entry that stands nowhere. -/
structure Off (n m : Nat) (pile : List Nat) (ls : Nat → List Nat) (i : Nat) : Prop where
  lt : i < n
  np : i ∉ pile
  nl : ∀ k, k < m → i ∉ ls k
def upL (ls : Nat → List Nat) (k : Nat) (l : List Nat) : Nat → List Nat := fun j => if j = k then l else ls j
theorem upL_eq {ls : Nat → List Nat} {k : Nat} {l : List Nat} : upL ls k l k = l := if_pos rfl
theorem upL_ne {ls : Nat → List Nat} {k j : Nat} {l : List Nat} (h : j ≠ k) : upL ls k l j = ls j := if_neg h
theorem la_neg {l : List Nat} : laO (-1) l = -1 ↔ l = [] := by
  constructor
  · intro h
    by_cases e : l = []
    · exact e
    · obtain ⟨c, y, _, h2⟩ := laO_nat (-1) l e
      rw [h2] at h; omega
  · rintro rfl; rfl
theorem hd_neg {l : List Nat} : hdO l (-1) = -1 ↔ l = [] := by
  cases l with
  | nil => simp [hdO]
  | cons x r => simp only [hdO]; constructor
                · intro h; omega
                · intro h; cases h
theorem po_put {p : Po} {n m : Nat} {pile : List Nat} {ls : Nat → List Nat} (h : PoI p n m pile ls) {i k : Nat} (hk : k < m) (ho : Off n m pile ls i) : PoI (poPut p i k) n m pile (upL ls k (ls k ++ [i])) := by
  have hle := h.le k hk
  have hkl : k < p.es.length := by rw [h.em]; exact hk
  have hil : i < p.ks.length := by rw [h.kn]; exact ho.lt
  have hni := ho.nl k hk
  have hnd : (ls k ++ [i]).Nodup := List.nodup_append.2 ⟨h.nl k hk, by simp, fun a ha b hb e => by simp at hb; subst hb; subst e; exact hni ha⟩
  have hsets : ∀ j, j < m → ∀ x, x ∈ upL ls k (ls k ++ [i]) j → x ∈ ls j ∨ (x = i ∧ j = k) := fun j hj x hx => by
    by_cases e : j = k
    · subst e; rw [upL_eq] at hx
      rcases List.mem_append.1 hx with h1 | h1
      · exact .inl h1
      · exact .inr ⟨by simpa using h1, rfl⟩
    · rw [upL_ne e] at hx; exact .inl hx
  have hnl : ∀ j, j < m → (upL ls k (ls k ++ [i]) j).Nodup := fun j hj => by
    by_cases e : j = k
    · subst e; rw [upL_eq]; exact hnd
    · rw [upL_ne e]; exact h.nl j hj
  have hap : ∀ j, j < m → ∀ x ∈ upL ls k (ls k ++ [i]) j, x ∉ pile := fun j hj x hx => by
    rcases hsets j hj x hx with h1 | ⟨rfl, _⟩
    · exact h.ap j hj x h1
    · exact ho.np
  have hal : ∀ j, j < m → ∀ j', j' < m → ∀ x, x ∈ upL ls k (ls k ++ [i]) j → x ∈ upL ls k (ls k ++ [i]) j' → j = j' := fun j hj j' hj' x hx hx' => by
    rcases hsets j hj x hx with h1 | ⟨rfl, rfl⟩
    · rcases hsets j' hj' x hx' with h2 | ⟨rfl, rfl⟩
      · exact h.al j hj j' hj' x h1 h2
      · exact absurd h1 (ho.nl j hj)
    · rcases hsets j' hj' x hx' with h2 | ⟨_, rfl⟩
      · exact absurd h2 (ho.nl j' hj')
      · rfl
  have hlast : laO (-1) (ls k ++ [i]) = (i : Int) := by rw [laO_app]; rfl
  unfold poPut
  rw [hle]
  dsimp only
  split
  · rename_i hn
    have hnil := la_neg.1 hn
    refine ⟨by rw [List.length_set]; exact h.kn, by rw [List.length_set]; exact h.em, h.top, h.free, pile_far _ h.pl ho.np, fun j hj => ?_, fun j hj => ?_, h.np, hnl, hap, hal⟩
    · by_cases e : j = k
      · subst e; rw [upL_eq, pget_eq hkl, hlast, hnil]; rfl
      · rw [upL_ne e, pget_ne (fun e2 => e e2.symm)]; exact h.le j hj
    · by_cases e : j = k
      · subst e; rw [upL_eq, hnil]
        exact ⟨by rw [List.length_set]; exact hil, by rw [pget_eq hil]; rfl, trivial⟩
      · rw [upL_ne e]; exact seg_far _ (h.ll j hj) (ho.nl j hj)
  · rename_i hn
    obtain ⟨c, y, hc, hy⟩ := laO_nat (-1) (ls k) (fun e => hn (la_neg.2 e))
    rw [hy, Int.toNat_natCast]
    have hym : y ∈ ls k := by rw [hc]; simp
    have hyi : y ≠ i := fun e => hni (by rw [← e]; exact hym)
    have hyc : y ∉ c := fun hm => by have := h.nl k hk; rw [hc] at this; exact (List.nodup_append.1 this).2.2 y hm y (by simp) rfl
    have hs1 := seg_far (i := i) ⟨k, (y : Int), -1⟩ (h.ll k hk) hni
    refine ⟨by rw [List.length_set, List.length_set]; exact h.kn, by rw [List.length_set]; exact h.em, h.top, h.free, pile_far _ (pile_far _ h.pl ho.np) (h.ap k hk y hym), fun j hj => ?_, fun j hj => ?_, h.np, hnl, hap, hal⟩
    · by_cases e : j = k
      · subst e; rw [upL_eq, pget_eq hkl, hlast, hc, hdO_app, List.append_assoc, hdO_app]
        cases c <;> rfl
      · rw [upL_ne e, pget_ne (fun e2 => e e2.symm)]; exact h.le j hj
    · by_cases e : j = k
      · subst e; rw [upL_eq]
        rw [hc] at hs1 ⊢
        have hs2 := seg_last (q' := (i : Int)) hs1 hyc
        refine seg_app.2 ⟨hs2, by rw [List.length_set, List.length_set]; exact hil, ?_, trivial⟩
        rw [pget_ne hyi, pget_eq hil, laO_app]; rfl
      · rw [upL_ne e]
        exact seg_far _ (seg_far _ (h.ll j hj) (ho.nl j hj)) (fun hm => e (h.al j hj k hk y hm hym))
theorem po_out {p : Po} {n m : Nat} {pile : List Nat} {ls : Nat → List Nat} (h : PoI p n m pile ls) {i k : Nat} {a b : List Nat} (hk : k < m) (hab : ls k = a ++ i :: b) :
    PoI (poOut p i) n m pile (upL ls k (a ++ b)) ∧ Off n m pile (upL ls k (a ++ b)) i := by
  have hle := h.le k hk
  have hkl : k < p.es.length := by rw [h.em]; exact hk
  have him : i ∈ ls k := by rw [hab]; simp
  have hs := h.ll k hk
  rw [hab] at hs
  obtain ⟨s1, s2, s3, s4⟩ := seg_app.1 hs
  have hd0 := h.nl k hk
  rw [hab] at hd0
  obtain ⟨d1, d2, d3⟩ := List.nodup_append.1 hd0
  obtain ⟨d4, d5⟩ := List.nodup_cons.1 d2
  have hia : i ∉ a := fun hm => d3 i hm i (by simp) rfl
  have hab' : ∀ x ∈ a, x ∉ b := fun x hx hb => d3 x hx x (by simp [hb]) rfl
  have hsub : ∀ x, x ∈ a ++ b → x ∈ ls k := fun x hx => by rw [hab]; rcases List.mem_append.1 hx with h1 | h1 <;> simp [h1]
  have hsets : ∀ j, ∀ x, x ∈ upL ls k (a ++ b) j → x ∈ ls j := fun j x hx => by
    by_cases e : j = k
    · subst e; rw [upL_eq] at hx; exact hsub x hx
    · rw [upL_ne e] at hx; exact hx
  have hnd : (a ++ b).Nodup := List.nodup_append.2 ⟨d1, d5, fun x hx y hy e => hab' x hx (by rw [e]; exact hy)⟩
  refine ⟨?_, ⟨by rw [← h.kn]; exact s2, h.ap k hk i him, fun j hj hm => ?_⟩⟩
  · have hal : a ≠ [] → ∃ (c : List Nat) (y : Nat), a = c ++ [y] ∧ laO (-1) a = (y : Int) := laO_nat (-1) a
    have hlast : laO (-1) (a ++ i :: b) = if hdO b (-1) = -1 then (i : Int) else laO (-1) (a ++ b) := by
      rw [laO_app, laO_app]
      cases b with
      | nil => rfl
      | cons y r => rw [if_neg (by simp [hdO])]; rfl
    have hl2 : laO (-1) (a ++ b) = if hdO b (-1) = -1 then laO (-1) a else laO (-1) (a ++ b) := by
      cases b with
      | nil => rw [List.append_nil]; simp
      | cons y r => rw [if_neg (by simp [hdO])]
    have hh2 : hdO (a ++ b) (-1) = if laO (-1) a = -1 then hdO b (-1) else hdO (ls k) (-1) := by
      rw [hab, hdO_app, hdO_app]
      cases a with
      | nil => rfl
      | cons y r => rw [if_neg (fun e => by have := la_neg.1 e; cases this)]; rfl
    have hl3 : laO (-1) (a ++ b) = if hdO b (-1) = -1 then laO (-1) a else laO (-1) (ls k) := by
      rw [hab, hlast]
      by_cases e : hdO b (-1) = -1
      · rw [if_pos e]; rw [hl2, if_pos e]
      · rw [if_neg e, if_neg e]
    unfold poOut
    rw [s3]
    dsimp only
    rw [Int.toNat_natCast, hle]
    dsimp only
    -- the links
    have key : ∀ K1, K1 = (if laO (-1) a = -1 then p.ks else p.ks.set (laO (-1) a).toNat { p.ks.getD (laO (-1) a).toNat lk0 with behind := hdO b (-1) }) → ∀ K2, K2 = (if hdO b (-1) = -1 then K1 else K1.set (hdO b (-1)).toNat { K1.getD (hdO b (-1)).toNat lk0 with ahead := laO (-1) a }) →
        K2.length = p.ks.length ∧ Pile K2 pile ∧ Seg K2 k (-1) (a ++ b) (-1) ∧ ∀ j, j < m → j ≠ k → Seg K2 j (-1) (ls j) (-1) := by
      intro K1 hK1 K2 hK2
      have g1 : K1.length = p.ks.length ∧ Pile K1 pile ∧ Seg K1 k (-1) a (hdO b (-1)) ∧ Seg K1 k (i : Int) b (-1) ∧ ∀ j, j < m → j ≠ k → Seg K1 j (-1) (ls j) (-1) := by
        by_cases e : a = []
        · subst e
          rw [if_pos (by rfl)] at hK1
          subst hK1
          exact ⟨rfl, h.pl, trivial, s4, fun j hj _ => h.ll j hj⟩
        · obtain ⟨c, y, hc, hy⟩ := hal e
          rw [if_neg (fun e2 => e (la_neg.1 e2)), hy, Int.toNat_natCast] at hK1
          have hya : y ∈ a := by rw [hc]; simp
          have hyk : y ∈ ls k := by rw [hab]; simp [hya]
          have hyc : y ∉ c := fun hm => by rw [hc] at d1; exact (List.nodup_append.1 d1).2.2 y hm y (by simp) rfl
          subst hK1
          refine ⟨List.length_set, pile_far _ h.pl (h.ap k hk y hyk), ?_, seg_far _ s4 (hab' y hya), fun j hj hne => seg_far _ (h.ll j hj) (fun hm => hne (h.al j hj k hk y hm hyk))⟩
          rw [hc] at s1 ⊢
          exact seg_last s1 hyc
      obtain ⟨g2, g3, g4, g5, g6⟩ := g1
      cases b with
      | nil =>
        rw [if_pos (by rfl)] at hK2
        subst hK2
        exact ⟨g2, g3, by rw [List.append_nil]; exact g4, g6⟩
      | cons y r =>
        rw [if_neg (by show ¬ ((y : Int) = -1); omega)] at hK2
        have e2 : (hdO (y :: r) (-1)).toNat = y := Int.toNat_natCast y
        rw [e2] at hK2
        have hyk : y ∈ ls k := by rw [hab]; simp
        have hya : y ∉ a := fun hm => hab' y hm (by simp)
        subst hK2
        refine ⟨by rw [List.length_set]; exact g2, pile_far _ g3 (h.ap k hk y hyk), seg_app.2 ⟨seg_far _ g4 hya, seg_first g5 (List.nodup_cons.1 d5).1⟩, fun j hj hne => seg_far _ (g6 j hj hne) (fun hm => hne (h.al j hj k hk y hm hyk))⟩
    obtain ⟨k1, k2, k3, k4⟩ := key _ rfl _ rfl
    refine ⟨k1.trans h.kn, by rw [List.length_set]; exact h.em, h.top, h.free, k2, fun j hj => ?_, fun j hj => ?_, h.np, fun j hj => ?_, fun j hj x hx => h.ap j hj x (hsets j x hx), fun j hj j' hj' x hx hx' => h.al j hj j' hj' x (hsets j x hx) (hsets j' x hx')⟩
    · by_cases e : j = k
      · subst e; rw [upL_eq, pget_eq hkl, hh2, hl3]
      · rw [upL_ne e, pget_ne (fun e2 => e e2.symm)]; exact h.le j hj
    · by_cases e : j = k
      · subst e; rw [upL_eq]; exact k3
      · rw [upL_ne e]; exact k4 j hj e
    · by_cases e : j = k
      · subst e; rw [upL_eq]; exact hnd
      · rw [upL_ne e]; exact h.nl j hj
  · by_cases e : j = k
    · subst e; rw [upL_eq] at hm
      rcases List.mem_append.1 hm with h1 | h1
      · exact hia h1
      · exact d4 h1
    · rw [upL_ne e] at hm; exact e (h.al j hj k hk i hm him)
theorem po_take {p : Po} {n m : Nat} {i : Nat} {r : List Nat} {ls : Nat → List Nat} (h : PoI p n m (i :: r) ls) :
    PoI { p with top := (p.ks.getD i lk0).behind, free := p.free - 1 } n m r ls ∧ Off n m r ls i ∧ p.top = (i : Int) := by
  obtain ⟨h1, h2, h3⟩ := h.pl
  obtain ⟨n1, n2⟩ := List.nodup_cons.1 h.np
  refine ⟨⟨h.kn, h.em, by show (p.ks.getD i lk0).behind = _; rw [h2], ?_, h3, h.le, h.ll, n2, h.nl, fun k hk x hx hm => h.ap k hk x hx (by simp [hm]), h.al⟩, ⟨by rw [← h.kn]; exact h1, n1, fun k hk hm => h.ap k hk i hm (by simp)⟩, h.top⟩
  show p.free - 1 = _
  rw [h.free]; simp
theorem po_give {p : Po} {n m : Nat} {i : Nat} {pile : List Nat} {ls : Nat → List Nat} (h : PoI p n m pile ls) (ho : Off n m pile ls i) :
    PoI { p with ks := p.ks.set i ⟨-1, -1, p.top⟩, top := (i : Int), free := p.free + 1 } n m (i :: pile) ls := by
  have hil : i < p.ks.length := by rw [h.kn]; exact ho.lt
  refine ⟨by show (p.ks.set i _).length = n; rw [List.length_set]; exact h.kn, h.em, rfl, ?_, ⟨by show i < (p.ks.set i _).length; rw [List.length_set]; exact hil, by show (p.ks.set i _).getD i lk0 = _; rw [pget_eq hil, h.top], pile_far _ h.pl ho.np⟩, h.le, fun k hk => seg_far _ (h.ll k hk) (ho.nl k hk), List.nodup_cons.2 ⟨ho.np, h.np⟩, h.nl, fun k hk x hx hm => ?_, h.al⟩
  · show p.free + 1 = _
    rw [h.free]; simp
  · rcases List.mem_cons.1 hm with rfl | hm
    · exact ho.nl k hk hx
    · exact h.ap k hk x hx hm
theorem nodup_lenN {α : Type} [BEq α] [LawfulBEq α] : ∀ {l m : List α}, l.Nodup → (∀ x ∈ l, x ∈ m) → l.length ≤ m.length
  | [], _, _, _ => Nat.zero_le _
  | x :: l, m, hn, h => by
    obtain ⟨h1, h2⟩ := List.nodup_cons.1 hn
    have hm := h x (by simp)
    have ih := nodup_lenN (l := l) (m := m.erase x) h2 (fun y hy => (List.mem_erase_of_ne (fun e => h1 (by rw [← e]; exact hy))).2 (h y (by simp [hy])))
    rw [List.length_erase_of_mem hm] at ih
    have := List.length_pos_of_mem hm
    rw [List.length_cons]; omega
theorem nodup_le (l : List Nat) (n : Nat) (hn : l.Nodup) (h : ∀ x ∈ l, x < n) : l.length ≤ n := by
  have := nodup_lenN (m := List.range n) hn (fun x hx => List.mem_range.2 (h x hx))
  rwa [List.length_range] at this
end Go.Proofs.YtiblpnadninmbaaGreatDoor

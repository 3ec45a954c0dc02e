/- The plain laws of a move: what is told, and what stays. No premise of its own. -/
import Derived.Test.YtiblpnadninmbaaDoorWhP
namespace Go.Proofs.YtiblpnadninmbaaDoor
open Go.RowKit Go.Shelf

section
variable {α β : Type}
/-- One put behind all that are not later. -/
def insG (f : α → Int) : List α → α → List α
  | [], x => [x]
  | y :: l, x => if f y ≤ f x then y :: insG f l x else x :: y :: l
def srtG (f : α → Int) (l : List α) : List α := l.foldl (insG f) []
theorem insG_perm (f : α → Int) : ∀ (l : List α) (x : α), (insG f l x).Perm (x :: l)
  | [], _ => .refl _
  | y :: l, x => by
    unfold insG
    split
    · exact ((insG_perm f l x).cons y).trans (.swap x y l)
    · exact .refl _
theorem srt_from (f : α → Int) : ∀ (l out : List α), (l.foldl (insG f) out).Perm (l ++ out)
  | [], _ => .refl _
  | x :: l, out => by
    rw [List.foldl_cons]
    exact (srt_from f l _).trans (((insG_perm f out x).append_left l).trans List.perm_middle)
theorem srtG_perm (f : α → Int) (l : List α) : (srtG f l).Perm l := by
  have := srt_from f l []
  rwa [List.append_nil] at this
/-- The order of those that are told. -/
def befT (f t : α → Int) (a b : α) : Prop := f a < f b ∨ (f a = f b ∧ t a < t b)
theorem insG_befT (f t : α → Int) : ∀ (l : List α) (x : α), l.Pairwise (befT f t) → (∀ y ∈ l, t y < t x) → (insG f l x).Pairwise (befT f t)
  | [], x, _, _ => List.pairwise_singleton _ _
  | y :: l, x, hp, ht => by
    obtain ⟨p1, p2⟩ := List.pairwise_cons.1 hp
    unfold insG
    split
    · rename_i hle
      refine List.pairwise_cons.2 ⟨fun z hz => ?_, insG_befT f t l x p2 (fun z hz => ht z (List.mem_cons_of_mem _ hz))⟩
      rcases List.mem_cons.1 ((insG_perm f l x).mem_iff.1 hz) with rfl | hz
      · have := ht y (List.mem_cons_self ..)
        unfold befT; omega
      · exact p1 z hz
    · rename_i hle
      refine List.pairwise_cons.2 ⟨fun z hz => ?_, hp⟩
      rcases List.mem_cons.1 hz with rfl | hz
      · unfold befT; omega
      · have := p1 z hz
        unfold befT at this ⊢; omega
theorem srt_from_befT (f t : α → Int) : ∀ (l out : List α), out.Pairwise (befT f t) → l.Pairwise (fun a b => t a < t b) → (∀ y ∈ out, ∀ x ∈ l, t y < t x) → (l.foldl (insG f) out).Pairwise (befT f t)
  | [], _, h, _, _ => h
  | x :: l, out, h, hl, hx => by
    obtain ⟨p1, p2⟩ := List.pairwise_cons.1 hl
    rw [List.foldl_cons]
    refine srt_from_befT f t l _ (insG_befT f t out x h (fun y hy => hx y hy x (List.mem_cons_self ..))) p2 (fun y hy z hz => ?_)
    rcases List.mem_cons.1 ((insG_perm f out x).mem_iff.1 hy) with rfl | hy
    · exact p1 z hz
    · exact hx y hy z (List.mem_cons_of_mem _ hz)
theorem srtG_befT (f t : α → Int) {l : List α} (hl : l.Pairwise (fun a b => t a < t b)) : (srtG f l).Pairwise (befT f t) := srt_from_befT f t l [] List.Pairwise.nil hl (fun y hy => by cases hy)
theorem insG_map {f : α → Int} {f' : β → Int} {g : α → β} (hg : ∀ x, f' (g x) = f x) : ∀ (l : List α) (x : α), (insG f l x).map g = insG f' (l.map g) (g x)
  | [], _ => rfl
  | y :: l, x => by
    rw [List.map_cons]
    unfold insG
    rw [hg, hg]
    split
    · rw [List.map_cons, insG_map hg l x]
    · rfl
theorem srt_from_map {f : α → Int} {f' : β → Int} {g : α → β} (hg : ∀ x, f' (g x) = f x) : ∀ (l out : List α), (l.foldl (insG f) out).map g = (l.map g).foldl (insG f') (out.map g)
  | [], _ => rfl
  | x :: l, out => by rw [List.foldl_cons, List.map_cons, List.foldl_cons, srt_from_map hg l, insG_map hg]
theorem srtG_map {f : α → Int} {f' : β → Int} {g : α → β} (hg : ∀ x, f' (g x) = f x) (l : List α) : (srtG f l).map g = srtG f' (l.map g) := srt_from_map hg l []
theorem srt_snoc (f : α → Int) (l : List α) (x : α) : srtG f (l ++ [x]) = insG f (srtG f l) x := by unfold srtG; rw [List.foldl_append]; rfl
/-- Two that are sorted and hold the same are one. -/
theorem befT_one {f t : α → Int} : ∀ {a b : List α}, a.Pairwise (befT f t) → b.Pairwise (befT f t) → a.Perm b → a = b := fun h1 h2 hp =>
  List.Perm.eq_of_pairwise (le := befT f t) (fun x y _ _ h3 h4 => by unfold befT at h3 h4; omega) h1 h2 hp
/-- Where one goes among those that are in order. -/
theorem insG_at {f : α → Int} {x : α} : ∀ {p q : List α}, (∀ y ∈ p, f y ≤ f x) → (∀ y ∈ q, f x < f y) → insG f (p ++ q) x = p ++ x :: q
  | [], [], _, _ => rfl
  | [], y :: q, _, h2 => by
    have := h2 y (List.mem_cons_self ..)
    show insG f (y :: q) x = _
    unfold insG
    rw [if_neg (by omega)]
    rfl
  | y :: p, q, h1, h2 => by
    show insG f (y :: (p ++ q)) x = _
    unfold insG
    rw [if_pos (h1 y (List.mem_cons_self ..)), insG_at (fun z hz => h1 z (List.mem_cons_of_mem _ hz)) h2]
    rfl
theorem insG_up {f : α → Int} : ∀ {l : List α} {x : α}, l.Pairwise (fun a b => f a ≤ f b) → (insG f l x).Pairwise (fun a b => f a ≤ f b)
  | [], _, _ => List.pairwise_singleton _ _
  | y :: l, x, hp => by
    obtain ⟨p1, p2⟩ := List.pairwise_cons.1 hp
    unfold insG
    split
    · rename_i hle
      refine List.pairwise_cons.2 ⟨fun z hz => ?_, insG_up p2⟩
      rcases List.mem_cons.1 ((insG_perm f l x).mem_iff.1 hz) with rfl | hz
      · exact hle
      · exact p1 z hz
    · rename_i hle
      refine List.pairwise_cons.2 ⟨fun z hz => ?_, hp⟩
      rcases List.mem_cons.1 hz with rfl | hz
      · omega
      · have := p1 z hz; omega
theorem srtG_up {f : α → Int} : ∀ {l out : List α}, out.Pairwise (fun a b => f a ≤ f b) → (l.foldl (insG f) out).Pairwise (fun a b => f a ≤ f b)
  | [], _, h => h
  | x :: l, out, h => by rw [List.foldl_cons]; exact srtG_up (insG_up h)
end
/-- What a move to T tells, and what stays. -/
def mvD (T : Int) (L : List Du) : List Du := srtG Du.at' (L.filter fun x => decide (x.at' ≤ T))
def rsD (T : Int) (L : List Du) : List Du := L.filter fun x => decide (T < x.at')
theorem mv_len (T : Int) (L : List Du) : (mvD T L).length + (rsD T L).length = L.length := by
  unfold mvD rsD
  rw [(srtG_perm _ _).length_eq]
  induction L with
  | nil => rfl
  | cons x L ih =>
    by_cases h : x.at' ≤ T
    · rw [List.filter_cons_of_pos (by simpa using h), List.filter_cons_of_neg (by simp; omega)]
      simp only [List.length_cons]; omega
    · rw [List.filter_cons_of_neg (by simpa using h), List.filter_cons_of_pos (by simp; omega)]
      simp only [List.length_cons]; omega
def tmE (e : Ent) : Tm := ⟨e.id, e.at', e.turn⟩
section
variable {room : Nat} {E : List Ent} {s : WhS}
theorem WI.due_perm (h : WI room E s) (hn : (s.ls 257).Nodup) : ((s.ls 257).map fun i => s.ts.getD i tm0).Perm ((E.filter fun e => decide (e.at' ≤ s.now)).map tmE) := by
  have hp : (s.ls 257).Perm ((E.filter fun e => decide (e.at' ≤ s.now)).map (·.i)) := by
    refine (List.perm_ext_iff_of_nodup hn (h.inn.sublist (List.filter_sublist.map _))).2 fun i => ?_
    rw [h.mem, List.mem_map]
    constructor
    · rintro ⟨e, he, h1, h2⟩
      exact ⟨e, List.mem_filter.2 ⟨he, by simpa using home_due_iff.1 h2⟩, h1⟩
    · rintro ⟨e, he, h1⟩
      obtain ⟨g1, g2⟩ := List.mem_filter.1 he
      exact ⟨e, g1, h1, home_due (by simpa using g2)⟩
  refine (hp.map _).trans ?_
  rw [List.map_map]
  refine List.Perm.of_eq (List.map_congr_left fun e he => ?_)
  exact h.ts e (List.mem_filter.1 he).1
/-- Those that are due, sorted. -/
theorem WI.told (h : WI room E s) (hn : (s.ls 257).Nodup) {zs : List Tm} (hp : zs.Perm ((s.ls 257).map fun i => s.ts.getD i tm0)) (hs : zs.Pairwise fun x y => ¬ befF y x < 0) :
    zs.map (fun x => (⟨x.id, x.at'⟩ : Du)) = mvD s.now (E.map duOf) := by
  have hp2 := hp.trans (h.due_perm hn)
  have hturn : (E.filter fun e => decide (e.at' ≤ s.now)).Pairwise (fun a b => a.turn < b.turn) := h.turn.filter _
  have hz : zs = (srtG Ent.at' (E.filter fun e => decide (e.at' ≤ s.now))).map tmE := by
    refine List.Perm.eq_of_pairwise (le := fun x y => ¬ befF y x < 0) (fun x y hx hy h1 h2 => ?_) hs ?_ (hp2.trans ((srtG_perm _ _).map tmE).symm)
    · rw [bef_iff] at h1 h2
      obtain ⟨a, ha, rfl⟩ := List.mem_map.1 (hp2.mem_iff.1 hx)
      obtain ⟨b, hb, rfl⟩ := List.mem_map.1 hy
      have hb := (srtG_perm _ _).mem_iff.1 hb
      have ht : a.turn = b.turn := by
        simp only [tmE] at h1 h2; omega
      rw [turn_inj hturn ha hb ht]
    · refine List.pairwise_map.2 ((srtG_befT Ent.at' Ent.turn hturn).imp fun {a b} hab => ?_)
      rw [bef_iff]
      unfold befT at hab
      simp only [tmE]; omega
  rw [hz, List.map_map]
  have e1 : (E.map duOf).filter (fun x => decide (x.at' ≤ s.now)) = (E.filter fun e => decide (e.at' ≤ s.now)).map duOf := by
    rw [List.filter_map]; rfl
  unfold mvD
  rw [e1, ← srtG_map (f := Ent.at') (f' := Du.at') (g := duOf) (fun _ => rfl)]
  rfl
theorem WI.stays (h : WI room E s) : (E.filter fun e => decide (e.i ∉ s.ls 257)).map duOf = rsD s.now (E.map duOf) := by
  unfold rsD
  rw [List.filter_map]
  congr 1
  refine List.filter_congr fun e he => ?_
  show decide (e.i ∉ s.ls 257) = decide (s.now < e.at')
  rw [decide_eq_decide]
  rw [h.mem]
  constructor
  · intro h9
    by_cases hle : e.at' ≤ s.now
    · exact absurd ⟨e, he, rfl, home_due hle⟩ h9
    · omega
  · rintro h9 ⟨e', he', h1, h2⟩
    have := h.inj he' he h1
    subst this
    have := home_due_iff.1 h2
    omega
end
end Go.Proofs.YtiblpnadninmbaaDoor

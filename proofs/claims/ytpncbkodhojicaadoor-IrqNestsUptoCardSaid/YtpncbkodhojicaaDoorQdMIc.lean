/- IrqNests: what the law keeps in memory beside lines: what is left, what is wanted, the times, what is being served. No premise of its own. -/
import Derived.Test.YtpncbkodhojicaaDoorQdLIc
namespace Go.Proofs.YtpncbkodhojicaaDoor
open Go.RowKit Go.Shelf
attribute [local go_sem] Oper.semAt_some
/-- The times of one line, and where they lie. -/
structure Tt where
  A : Option Addr
  c : Nat
  L : List Int
def tt0 : Tt := ⟨none, 0, []⟩
def Tt.v (x : Tt) : Value := .slice x.A x.L.length x.c
structure NsM (w : World) (p bl bw bt : Nat) (W : World) (s : Qs) (left want : List Int) (tt : List Tt) (stk : List Int) (SA : Option Addr) (sc : Nat) (M : List Nat) : Prop where
  io : IqO w p M s W
  lo : Below w.heap.size w W
  lx : W.heap[bl]? = some (.cells (left.map (Value.int .i64)).toArray 2 (0, 0))
  wx : W.heap[bw]? = some (.cells (want.map (Value.int .i64)).toArray 2 (0, 0))
  tx : W.heap[bt]? = some (.cells (tt.map Tt.v).toArray 47 (0, 0))
  tr : ∀ x ∈ tt, W.ownsRow w.heap.size 2 1 x.v x.L.length (x.L.map (.int .i64))
  ta : ∀ x ∈ tt, ∀ a, x.A = some a → a.block ∈ M ∧ a.block ≠ bl ∧ a.block ≠ bw
  td : ∀ i j a b, (tt.getD i tt0).A = some a → (tt.getD j tt0).A = some b → i ≠ j → a.block ≠ b.block
  sr : W.ownsRow w.heap.size 3 1 (.slice SA stk.length sc) stk.length (stk.map (.int .i64))
  sa : ∀ a, SA = some a → a.block ∈ M
  ml : bl ∈ M
  mw : bw ∈ M
  mt : bt ∈ M
  ne : bl ≠ bw
  low : w.heap.size ≤ bl ∧ w.heap.size ≤ bw ∧ w.heap.size ≤ bt
theorem KpM.own {w W W' : World} {M : List Nat} (h : KpM w M W W') {base : Nat} {e : TypeId} {k n c : Nat} {A : Option Addr} {vs : List Value} (ho : W.ownsRow base e k (.slice A n c) n vs) (hA : ∀ a, A = some a → a.block ∈ M) : W'.ownsRow base e k (.slice A n c) n vs := by
  obtain ⟨F, ht, hF⟩ := h
  refine own_tnq ho ht fun g hg hm => (hF g hm).2 ?_
  cases A with
  | none => cases hg
  | some a =>
    injection hg with hg
    rw [← hg]; exact hA a rfl
section
variable {w : World} {p bl bw bt : Nat} {W W' : World} {s s' : Qs} {left want : List Int} {tt : List Tt} {stk : List Int} {SA : Option Addr} {sc : Nat} {M : List Nat}
theorem NsM.call (h : NsM w p bl bw bt W s left want tt stk SA sc M) (io : IqO w p M s' W') (hk : KpM w M W W') : NsM w p bl bw bt W' s' left want tt stk SA sc M :=
  ⟨io, hk.below h.lo, hk.box h.lx h.ml, hk.box h.wx h.mw, hk.box h.tx h.mt, fun x hx => hk.own (h.tr x hx) (fun a ha => (h.ta x hx a ha).1), h.ta, h.td, hk.own h.sr h.sa, h.sa, h.ml, h.mw, h.mt, h.ne, h.low⟩
theorem NsM.below (h : NsM w p bl bw bt W s left want tt stk SA sc M) (hb : Below W.heap.size W W') : NsM w p bl bw bt W' s left want tt stk SA sc M :=
  h.call (h.io.below hb) (KpM.of_below hb)
theorem NsM.drewN (h : NsM w p bl bw bt W s left want tt stk SA sc M) (n : Nat) : NsM w p bl bw bt (W.drewN n) s left want tt stk SA sc M :=
  h.call (h.io.drewN n) ⟨[], (Tn.refl _ _).drewN n, fun _ h => by cases h⟩
theorem NsM.sub {M' : List Nat} (h : NsM w p bl bw bt W s left want tt stk SA sc M) (io : IqO w p M' s W) (hM : ∀ b ∈ M, b ∈ M') : NsM w p bl bw bt W s left want tt stk SA sc M' :=
  ⟨io, h.lo, h.lx, h.wx, h.tx, h.tr, fun x hx a ha => ⟨hM _ (h.ta x hx a ha).1, (h.ta x hx a ha).2⟩, h.td, h.sr, fun a ha => hM _ (h.sa a ha), hM _ h.ml, hM _ h.mw, hM _ h.mt, h.ne, h.low⟩
/-- A block of one's own comes. -/
theorem NsM.box (h : NsM w p bl bw bt W s left want tt stk SA sc M) (o : Obj) : NsM w p bl bw bt (W.alloc o) s left want tt stk SA sc (W.heap.size :: M) :=
  (h.below ((Below.refl _ _).alloc (Nat.le_refl _) o)).sub (h.io.alloc o) (fun _ hb => List.mem_cons_of_mem _ hb)
theorem NsM.lt (h : NsM w p bl bw bt W s left want tt stk SA sc M) : ∀ b ∈ M, b < W.heap.size := h.io.lt
theorem ints_setq (l : List Int) (i : Nat) (v : Int) : ((l.map (Value.int .i64)).toArray).setIfInBounds i (.int .i64 v) = ((l.set i v).map (Value.int .i64)).toArray := by
  rw [List.setIfInBounds_toArray, List.map_set]
theorem own_other_set {b : Nat} {base : Nat} {e : TypeId} {k n c : Nat} {A : Option Addr} {vs : List Value} (ho : W.ownsRow base e k (.slice A n c) n vs) (hA : ∀ a, A = some a → a.block ≠ b) (i : Nat) (u : Value) : (W.setCell ⟨b, i, none⟩ u).ownsRow base e k (.slice A n c) n vs :=
  own_setK (p := ⟨b, i, none⟩) ho (fun hb => by
    cases A with
    | none => cases hb
    | some a => injection hb with hb; exact hA a rfl hb) u
theorem NsM.setW (h : NsM w p bl bw bt W s left want tt stk SA sc M) (i : Nat) (v : Int) : NsM w p bl bw bt (W.setCell ⟨bw, i, none⟩ (.int .i64 v)) s left (want.set i v) tt stk SA sc M where
  io := h.io.tn ((Tn.refl [bw] W).setCell (p := ⟨bw, i, none⟩) (by simp) _) (fun k hk => .inl (by rw [List.mem_singleton.1 hk]; exact h.mw))
  lo := h.lo.setCell (p := ⟨bw, i, none⟩) h.low.2.1 _
  lx := box_far h.lx (p := ⟨bw, i, none⟩) h.ne _
  wx := by rw [← ints_setq]; exact box_set h.wx _
  tx := box_far h.tx (p := ⟨bw, i, none⟩) (fun e => by
    have h1 := h.tx
    rw [show bt = bw from e, h.wx] at h1
    injection h1 with h1
    injection h1 with _ h1
    exact absurd h1 (by decide)) _
  tr x hx := own_other_set (h.tr x hx) (fun a ha => (h.ta x hx a ha).2.2) _ _
  ta := h.ta
  td := h.td
  sr := own_setK h.sr (p := ⟨bw, i, none⟩) (own_apart_box h.sr h.wx (by decide)) _
  sa := h.sa
  ml := h.ml
  mw := h.mw
  mt := h.mt
  ne := h.ne
  low := h.low
theorem NsM.setL (h : NsM w p bl bw bt W s left want tt stk SA sc M) (i : Nat) (v : Int) : NsM w p bl bw bt (W.setCell ⟨bl, i, none⟩ (.int .i64 v)) s (left.set i v) want tt stk SA sc M where
  io := h.io.tn ((Tn.refl [bl] W).setCell (p := ⟨bl, i, none⟩) (by simp) _) (fun k hk => .inl (by rw [List.mem_singleton.1 hk]; exact h.ml))
  lo := h.lo.setCell (p := ⟨bl, i, none⟩) h.low.1 _
  lx := by rw [← ints_setq]; exact box_set h.lx _
  wx := box_far h.wx (p := ⟨bl, i, none⟩) h.ne.symm _
  tx := box_far h.tx (p := ⟨bl, i, none⟩) (fun e => by
    have h1 := h.tx
    rw [show bt = bl from e, h.lx] at h1
    injection h1 with h1
    injection h1 with _ h1
    exact absurd h1 (by decide)) _
  tr x hx := own_other_set (h.tr x hx) (fun a ha => (h.ta x hx a ha).2.1) _ _
  ta := h.ta
  td := h.td
  sr := own_setK h.sr (p := ⟨bl, i, none⟩) (own_apart_box h.sr h.lx (by decide)) _
  sa := h.sa
  ml := h.ml
  mw := h.mw
  mt := h.mt
  ne := h.ne
  low := h.low
/-- What is being served grows by one. -/
theorem NsM.appS (h : NsM w p bl bw bt W s left want tt stk SA sc M) {o : Obj} {A4 : Option Addr} {c4 : Nat} {w4 : World} {x : Int} (hg : (W.alloc o).grownBy w4 (Value.slice SA stk.length sc).ownBlock)
    (hat : (Value.slice A4 (stk.length + 1) c4).ownBlock = (Value.slice SA stk.length sc).ownBlock ∨ (Value.slice A4 (stk.length + 1) c4).ownBlock = some (W.alloc o).heap.size)
    (ho : w4.ownsRow w.heap.size 3 1 (.slice A4 (stk.length + 1) c4) (stk.length + 1) (stk.map (.int .i64) ++ [.int .i64 x])) : ∃ M', (∀ b ∈ M, b ∈ M') ∧ NsM w p bl bw bt w4 s left want tt (stk ++ [x]) A4 c4 M' := by
  have G := grown_step h.sr hg
  have hlo := h.lo.size
  have hrow : ∀ k, (Value.slice SA stk.length sc).ownBlock = some k → k ∈ M := fun k hk => by
    cases SA with
    | none => cases hk
    | some a => injection hk with hk; rw [← hk]; exact h.sa a rfl
  have hT : Tn (Value.slice SA stk.length sc).ownBlock.toList W w4 := ((Tn.refl _ W).alloc o).grown hg (fun k e => .inl (by rw [e]; simp))
  have hsz : W.heap.size + 1 ≤ w4.heap.size := G.size
  refine ⟨(A4.toList.map (·.block)) ++ M, fun b hb => List.mem_append_right _ hb, ?_⟩
  have hA4 : ∀ a, A4 = some a → a.block ∈ M ∨ (W.heap.size ≤ a.block ∧ a.block < w4.heap.size) := fun a ha => by
    subst ha
    have hl := (own_blockK ho (g := a.block) rfl).2.1
    rcases hat with h7 | h7
    · exact .inl (hrow _ h7.symm)
    · injection h7 with h7
      rw [World.size_alloc] at h7
      right; omega
  have hio : IqO w p ((A4.toList.map (·.block)) ++ M) s w4 := h.io.grow hT (fun k hk => .inl (hrow k (by simpa using hk))) (fun b hb => by
    rcases List.mem_append.1 hb with hb | hb
    · obtain ⟨a, ha, rfl⟩ : ∃ a, A4 = some a ∧ a.block = b := by simpa using hb
      exact hA4 a ha
    · exact .inl hb)
  exact {
    io := hio
    lo := G.below h.lo (Nat.le_refl _) hlo
    lx := G.other h.lx (by decide)
    wx := G.other h.wx (by decide)
    tx := G.other h.tx (by decide)
    tr := fun x hx => G.row (h.tr x hx) (by decide)
    ta := fun x hx a ha => ⟨List.mem_append_right _ (h.ta x hx a ha).1, (h.ta x hx a ha).2⟩
    td := h.td
    sr := by rw [List.length_append, List.map_append]; exact ho
    sa := fun a ha => List.mem_append_left _ (by rw [ha]; simp)
    ml := List.mem_append_right _ h.ml
    mw := List.mem_append_right _ h.mw
    mt := List.mem_append_right _ h.mt
    ne := h.ne
    low := h.low }
theorem tt_mem {i : Nat} (hi : i < tt.length) : tt.getD i tt0 ∈ tt := by
  rw [List.getD_eq_getElem?_getD, List.getElem?_eq_getElem hi]; exact List.getElem_mem hi
/-- The times of a line grow by one. -/
theorem NsM.appT (h : NsM w p bl bw bt W s left want tt stk SA sc M) {i : Nat} (hi : i < tt.length) {y : Tt} (hy : tt.getD i tt0 = y) {o : Obj} {A4 : Option Addr} {c4 : Nat} {w4 : World} {x : Int} (hg : (W.alloc o).grownBy w4 y.v.ownBlock)
    (hat : (Value.slice A4 (y.L.length + 1) c4).ownBlock = y.v.ownBlock ∨ (Value.slice A4 (y.L.length + 1) c4).ownBlock = some (W.alloc o).heap.size)
    (ho : w4.ownsRow w.heap.size 2 1 (.slice A4 (y.L.length + 1) c4) (y.L.length + 1) (y.L.map (.int .i64) ++ [.int .i64 x])) :
    ∃ M', (∀ b ∈ M, b ∈ M') ∧ NsM w p bl bw bt (w4.setCell ⟨bt, i, none⟩ (.slice A4 (y.L.length + 1) c4)) s left want (tt.set i ⟨A4, c4, y.L ++ [x]⟩) stk SA sc M' := by
  have hym : y ∈ tt := hy ▸ tt_mem hi
  have hyr := h.tr y hym
  have G := grown_step hyr hg
  have hlo := h.lo.size
  have hrow : ∀ k, y.v.ownBlock = some k → ∃ a, y.A = some a ∧ a.block = k := fun k hk => by
    unfold Tt.v at hk
    cases ha : y.A with
    | none => rw [ha] at hk; cases hk
    | some a => rw [ha] at hk; injection hk with hk; exact ⟨a, rfl, hk⟩
  have hrowM : ∀ k, y.v.ownBlock = some k → k ∈ M ∧ k ≠ bl ∧ k ≠ bw := fun k hk => by
    obtain ⟨a, ha, rfl⟩ := hrow k hk
    exact h.ta y hym a ha
  have hT : Tn y.v.ownBlock.toList W w4 := ((Tn.refl _ W).alloc o).grown hg (fun k e => .inl (by rw [e]; simp))
  have hsz : W.heap.size + 1 ≤ w4.heap.size := G.size
  have hT2 : Tn (bt :: y.v.ownBlock.toList) W (w4.setCell ⟨bt, i, none⟩ (.slice A4 (y.L.length + 1) c4)) := (hT.mono (fun k hk => List.mem_cons_of_mem _ hk)).setCell (p := ⟨bt, i, none⟩) (by simp) _
  have hA4 : ∀ a, A4 = some a → (y.v.ownBlock = some a.block) ∨ (W.heap.size ≤ a.block ∧ a.block < w4.heap.size) := fun a ha => by
    subst ha
    have hl := (own_blockK ho (g := a.block) rfl).2.1
    rcases hat with h7 | h7
    · exact .inl h7.symm
    · injection h7 with h7
      rw [World.size_alloc] at h7
      right; omega
  have hbtl : bt < W.heap.size := box_lt h.tx
  have hbll : bl < W.heap.size := box_lt h.lx
  have hbwl : bw < W.heap.size := box_lt h.wx
  have htb : ∀ x ∈ tt, ∀ a, x.A = some a → a.block < W.heap.size ∧ a.block ≠ bt := fun x hx a ha => by
    obtain ⟨_, h2, cur, h3⟩ := own_blockK (h.tr x hx) (g := a.block) (by unfold Tt.v; rw [ha]; rfl)
    refine ⟨h2, fun e => ?_⟩
    rw [e, h.tx] at h3
    injection h3 with h3
    injection h3 with _ h3
    exact absurd h3 (by decide)
  have hsz2 : (w4.setCell ⟨bt, i, none⟩ (.slice A4 (y.L.length + 1) c4)).heap.size = w4.heap.size := by simp [World.setCell]
  refine ⟨(A4.toList.map (·.block)) ++ M, fun b hb => List.mem_append_right _ hb, ?_⟩
  have hio : IqO w p ((A4.toList.map (·.block)) ++ M) s (w4.setCell ⟨bt, i, none⟩ (.slice A4 (y.L.length + 1) c4)) := h.io.grow hT2 (fun k hk => by
      rcases List.mem_cons.1 hk with rfl | hk
      · exact .inl h.mt
      · exact .inl (hrowM k (by simpa using hk)).1) (fun b hb => by
    rcases List.mem_append.1 hb with hb | hb
    · obtain ⟨a, ha, rfl⟩ : ∃ a, A4 = some a ∧ a.block = b := by simpa using hb
      rcases hA4 a ha with h8 | h8
      · exact .inl (hrowM _ h8).1
      · right; omega
    · exact .inl hb)
  have hne : ∀ b, b ≠ bt → (∀ k, y.v.ownBlock = some k → b ≠ k) → b ∉ bt :: y.v.ownBlock.toList := fun b h1 h2 hm => by
    rcases List.mem_cons.1 hm with h3 | h3
    · exact h1 h3
    · exact h2 b (by simpa using h3) rfl
  have hgl : ∀ j, j < (tt.set i (⟨A4, c4, y.L ++ [x]⟩ : Tt)).length → (tt.set i ⟨A4, c4, y.L ++ [x]⟩).getD j tt0 = if j = i then ⟨A4, c4, y.L ++ [x]⟩ else tt.getD j tt0 := fun j _ => getD_set tt i j _ _ hi
  have hother : ∀ j, j < tt.length → j ≠ i → ∀ a k, (tt.getD j tt0).A = some a → y.v.ownBlock = some k → a.block ≠ k := fun j hj hji a k ha hk => by
    obtain ⟨b, hb, rfl⟩ := hrow k hk
    exact h.td j i a b ha (by rw [hy]; exact hb) hji
  have hbtne : bt ≠ bl ∧ bt ≠ bw := by
    have h1 := h.tx
    constructor <;> intro e <;> rw [e] at h1
    · rw [h.lx] at h1; injection h1 with h1; injection h1 with _ h1; exact absurd h1 (by decide)
    · rw [h.wx] at h1; injection h1 with h1; injection h1 with _ h1; exact absurd h1 (by decide)
  exact {
    io := hio
    lo := (G.below h.lo (Nat.le_refl _) hlo).setCell (p := ⟨bt, i, none⟩) h.low.2.2 _
    lx := hT2.box h.lx (hne bl hbtne.1.symm (fun k hk e => (hrowM k hk).2.1 e.symm))
    wx := hT2.box h.wx (hne bw hbtne.2.symm (fun k hk e => (hrowM k hk).2.2 e.symm))
    tx := by
      have h1 := box_set (i := i) (G.other h.tx (by decide)) (.slice A4 (y.L.length + 1) c4)
      rw [List.setIfInBounds_toArray] at h1
      rw [h1, List.map_set]
      unfold Tt.v
      rw [List.length_append]; rfl
    tr := fun z hz => by
      obtain ⟨j, hj, rfl⟩ := List.getElem_of_mem hz
      have hj2 : j < tt.length := by rwa [List.length_set] at hj
      have e : (tt.set i (⟨A4, c4, y.L ++ [x]⟩ : Tt))[j] = if j = i then ⟨A4, c4, y.L ++ [x]⟩ else tt.getD j tt0 := by
        rw [← hgl j hj, List.getD_eq_getElem?_getD, List.getElem?_eq_getElem hj]; rfl
      rw [e]
      by_cases hji : j = i
      · rw [if_pos hji]
        unfold Tt.v
        rw [List.length_append, List.map_append]
        exact own_setK (p := ⟨bt, i, none⟩) ho (fun hb => by
          cases hA : A4 with
          | none => rw [hA] at hb; cases hb
          | some a =>
            rw [hA] at hb
            injection hb with hb
            rcases hA4 a hA with h8 | h8
            · exact absurd hb ((htb y hym _ (hrow _ h8).choose_spec.1).2 ∘ fun e => by rw [(hrow _ h8).choose_spec.2]; exact e)
            · have : a.block = bt := hb
              omega) _
      · rw [if_neg hji]
        refine own_tnq (h.tr _ (tt_mem hj2)) hT2 (fun b hb => ?_)
        have hb2 : ∃ a, (tt.getD j tt0).A = some a ∧ a.block = b := by
          unfold Tt.v at hb
          cases ha : (tt.getD j tt0).A with
          | none => rw [ha] at hb; cases hb
          | some a => rw [ha] at hb; injection hb with hb; exact ⟨a, rfl, hb⟩
        obtain ⟨a, ha, rfl⟩ := hb2
        exact hne _ (htb _ (tt_mem hj2) a ha).2 (fun k hk => hother j hj2 hji a k ha hk)
    ta := fun z hz a ha => by
      obtain hz | rfl := List.mem_or_eq_of_mem_set hz
      · exact ⟨List.mem_append_right _ (h.ta z hz a ha).1, (h.ta z hz a ha).2⟩
      · refine ⟨List.mem_append_left _ (by rw [show A4 = some a from ha]; simp), ?_⟩
        rcases hA4 a ha with h8 | h8
        · exact (hrowM _ h8).2
        · omega
    td := fun j k a b ha hb hjk => by
      have hout : ∀ m, ¬ m < tt.length → ((tt.set i (⟨A4, c4, y.L ++ [x]⟩ : Tt)).getD m tt0).A = none := fun m hm => by
        rw [List.getD_eq_getElem?_getD, List.getElem?_eq_none (by rw [List.length_set]; omega)]; rfl
      have hj : j < tt.length := Classical.byContradiction fun hn => by rw [hout j hn] at ha; cases ha
      have hk : k < tt.length := Classical.byContradiction fun hn => by rw [hout k hn] at hb; cases hb
      rw [hgl j (by rw [List.length_set]; exact hj)] at ha
      rw [hgl k (by rw [List.length_set]; exact hk)] at hb
      by_cases hji : j = i
      · have hki : k ≠ i := fun e => hjk (hji.trans e.symm)
        rw [if_pos hji] at ha
        rw [if_neg hki] at hb
        rcases hA4 a ha with h8 | h8
        · exact (hother k hk hki b _ hb h8).symm
        · have := (htb _ (tt_mem hk) b hb).1; omega
      · rw [if_neg hji] at ha
        by_cases hki : k = i
        · rw [if_pos hki] at hb
          rcases hA4 b hb with h8 | h8
          · exact hother j hj hji a _ ha h8
          · have := (htb _ (tt_mem hj) a ha).1; omega
        · rw [if_neg hki] at hb
          exact h.td j k a b ha hb hjk
    sr := own_setK (p := ⟨bt, i, none⟩) (G.row h.sr (by decide)) (own_apart_box (G.row h.sr (by decide)) (G.other h.tx (by decide)) (by decide)) _
    sa := fun a ha => List.mem_append_right _ (h.sa a ha)
    ml := List.mem_append_right _ h.ml
    mw := List.mem_append_right _ h.mw
    mt := List.mem_append_right _ h.mt
    ne := h.ne
    low := h.low }
/-- What is being served is one less. -/
theorem NsM.drop (h : NsM w p bl bw bt W s left want tt stk SA sc M) (h0 : stk.length ≠ 0) : NsM w p bl bw bt W s left want tt (stk.take (stk.length - 1)) SA sc M := by
  refine ⟨h.io, h.lo, h.lx, h.wx, h.tx, h.tr, h.ta, h.td, ?_, h.sa, h.ml, h.mw, h.mt, h.ne, h.low⟩
  obtain ⟨g, rfl, _⟩ := own_headK h.sr (by omega)
  have h1 := own_take h.sr (Nat.sub_le stk.length 1)
  rw [Nat.mul_one, ← List.map_take] at h1
  rw [show (stk.take (stk.length - 1)).length = stk.length - 1 by rw [List.length_take]; omega]
  exact h1
theorem cells_at {b : Nat} {l : List Value} {t : TypeId} (h : W.heap[b]? = some (.cells l.toArray t (0, 0))) {i : Nat} {v : Value} (hv : l[i]? = some v) : W.cell? ⟨b, i, none⟩ = some v ∧ W.frozen? ⟨b, i, none⟩ = false := by
  obtain ⟨x, y⟩ := box_rules h
  exact ⟨by rw [x]; simpa using hv, y i⟩
theorem NsM.wcell (h : NsM w p bl bw bt W s left want tt stk SA sc M) {i : Nat} (hi : i < want.length) : W.cell? ⟨bw, i, none⟩ = some (.int .i64 (want.getD i 0)) ∧ W.frozen? ⟨bw, i, none⟩ = false :=
  cells_at h.wx (by rw [List.getElem?_map, List.getElem?_eq_getElem hi, List.getD_eq_getElem?_getD, List.getElem?_eq_getElem hi]; rfl)
theorem NsM.lcell (h : NsM w p bl bw bt W s left want tt stk SA sc M) {i : Nat} (hi : i < left.length) : W.cell? ⟨bl, i, none⟩ = some (.int .i64 (left.getD i 0)) ∧ W.frozen? ⟨bl, i, none⟩ = false :=
  cells_at h.lx (by rw [List.getElem?_map, List.getElem?_eq_getElem hi, List.getD_eq_getElem?_getD, List.getElem?_eq_getElem hi]; rfl)
theorem NsM.tcell (h : NsM w p bl bw bt W s left want tt stk SA sc M) {i : Nat} (hi : i < tt.length) : W.cell? ⟨bt, i, none⟩ = some (tt.getD i tt0).v ∧ W.frozen? ⟨bt, i, none⟩ = false :=
  cells_at h.tx (by rw [List.getElem?_map, List.getElem?_eq_getElem hi, List.getD_eq_getElem?_getD, List.getElem?_eq_getElem hi]; rfl)
end
end Go.Proofs.YtpncbkodhojicaaDoor

/- Package wheel: a wheel's memory; the walks of Now, Len, home, note and At. Conditions: a wheel's memory. -/
import Derived.Test.YtiblpnadninmbaaGreatDoorWhB
namespace Go.Proofs.YtiblpnadninmbaaGreatDoor
open Go.RowKit Go.Shelf
attribute [local go_sem] Oper.semAt_some

/-- A timer. -/
structure Tm where
  id : Int
  at' : Int
  turn : Int
def tmc (x : Tm) : List Value := [.int .i64 x.id, .int .i64 x.at', .int .i64 x.turn]
def tm0 : Tm := ⟨0, 0, 0⟩
/-- A wheel's blocks. -/
structure WhF where
  pw : Nat
  pp : Nat
  bl : Nat
  be : Nat
  bt : Nat
  bm : Nat
def WhF.l (f : WhF) : List Nat := [f.pw, f.pp, f.bl, f.be, f.bt, f.bm]
/-- What a wheel's memory tells. -/
structure WhS where
  now : Int
  turns : Int
  ts : List Tm
  M : Int → Option Int
  sz : Nat
  pile : List Nat
  ls : Nat → List Nat
  fb : Nat → Nat
structure WhM (w : World) (f : WhF) (room : Nat) (s : WhS) : Prop where
  box : w.heap[f.pw]? = some (.cells #[.int .i64 s.now, .int .i64 s.turns, .pointer (some ⟨f.pp, 0, none⟩), .slice (some ⟨f.bt, 0, none⟩) room room, .map (some f.bm), .int .u64 (s.fb 0 : Nat), .int .u64 (s.fb 1 : Nat), .int .u64 (s.fb 2 : Nat), .int .u64 (s.fb 3 : Nat)] 110 (0, 0))
  tm : w.heap[f.bt]? = some (.cells ⟨s.ts.flatMap tmc⟩ 150 (0, 0))
  tl : s.ts.length = room
  mp : MapN Tryz.prog 3 3 w f.bm s.M s.sz
  pool : PoolAt w f.pp f.bl f.be room 258 s.pile s.ls
theorem mt_ids : MapT Tryz.prog 106 3 3 := ⟨Tryz.underlying106, Tryz.underlying3, Tryz.underlying3, by kernel_rfl⟩
section
variable {w w' : World} {f : WhF} {room : Nat} {s : WhS}
theorem cells_ne {w : World} {a b : Nat} {c1 c2 : Array Value} {t1 t2 : TypeId} (h1 : w.heap[a]? = some (.cells c1 t1 (0, 0))) (h2 : w.heap[b]? = some (.cells c2 t2 (0, 0))) (ht : t1 ≠ t2) : a ≠ b := fun e => by
  rw [e, h2] at h1; injection h1 with h1; injection h1 with _ h1; exact ht h1.symm
theorem map_ne {P : Program} {k e : TypeId} {w : World} {a b : Nat} {c1 : Array Value} {t1 : TypeId} {M : Int → Option Int} {sz : Nat} (h1 : w.heap[a]? = some (.cells c1 t1 (0, 0))) (h2 : MapN P k e w b M sz) : a ≠ b := fun e => by
  obtain ⟨o, ho, hw, hc⟩ := h2.walk
  rw [e, ho] at h1; injection h1 with h1; rw [h1] at hc; cases hc
/-- A wheel's blocks are apart. -/
structure WhN (f : WhF) : Prop where
  a1 : f.pw ≠ f.pp
  a2 : f.pw ≠ f.bl
  a3 : f.pw ≠ f.be
  a4 : f.pw ≠ f.bt
  a5 : f.pw ≠ f.bm
  b1 : f.bt ≠ f.pp
  b2 : f.bt ≠ f.bl
  b3 : f.bt ≠ f.be
  b4 : f.bt ≠ f.bm
  c1 : f.pp ≠ f.bm
  c2 : f.bl ≠ f.bm
  c3 : f.be ≠ f.bm
theorem WhM.ne (h : WhM w f room s) : WhN f := by
  obtain ⟨p, hp, _⟩ := h.pool
  exact ⟨cells_ne h.box hp.box (by decide), cells_ne h.box hp.lk (by decide), cells_ne h.box hp.en (by decide), cells_ne h.box h.tm (by decide), map_ne h.box h.mp,
    cells_ne h.tm hp.box (by decide), cells_ne h.tm hp.lk (by decide), cells_ne h.tm hp.en (by decide), map_ne h.tm h.mp, map_ne hp.box h.mp, map_ne hp.lk h.mp, map_ne hp.en h.mp⟩
theorem WhM.tn {F : List Nat} (h : WhM w f room s) (ht : Tn F w w') (hf : ∀ b ∈ f.l, b ∉ F) : WhM w' f room s :=
  ⟨ht.box h.box (hf _ (by simp [WhF.l])), ht.box h.tm (hf _ (by simp [WhF.l])), h.tl, h.mp.tn ht (hf _ (by simp [WhF.l])), h.pool.tn ht (hf _ (by simp [WhF.l])) (hf _ (by simp [WhF.l])) (hf _ (by simp [WhF.l]))⟩
theorem WhM.below (h : WhM w f room s) (hb : Below w.heap.size w w') : WhM w' f room s := h.tn (Tn.of_below [] hb) (fun _ _ => by simp)
theorem WhM.drewN (h : WhM w f room s) (n : Nat) : WhM (w.drewN n) f room s := ⟨h.box, h.tm, h.tl, h.mp.drewN n, h.pool.drewN n⟩
theorem WhM.drew (h : WhM w f room s) : WhM w.drew f room s := ⟨h.box, h.tm, h.tl, h.mp.drew, h.pool.drewN 1⟩
theorem WhM.lt (h : WhM w f room s) : ∀ b ∈ f.l, b < w.heap.size := by
  intro b hb
  obtain ⟨q1, q2, q3⟩ := h.pool.lt
  simp [WhF.l] at hb
  rcases hb with rfl | rfl | rfl | rfl | rfl | rfl
  · exact box_lt h.box
  · exact q1
  · exact q2
  · exact q3
  · exact box_lt h.tm
  · exact h.mp.lt
theorem WhM.tmAt (h : WhM w f room s) {i : Nat} (hi : i < room) : ∃ x, s.ts.getD i tm0 = x ∧ w.cell? ⟨f.bt, i * 3, none⟩ = some (.int .i64 x.id) ∧ w.cell? ⟨f.bt, i * 3 + 1, none⟩ = some (.int .i64 x.at') ∧ w.cell? ⟨f.bt, i * 3 + 2, none⟩ = some (.int .i64 x.turn) := by
  have hl : i < s.ts.length := by rw [h.tl]; exact hi
  have g := flat_get (f := tmc) (k := 3) (fun _ => rfl) tm0 s.ts i hl
  obtain ⟨r, _⟩ := box_rules h.tm
  have g0 := g 0 (by omega); have g1 := g 1 (by omega); have g2 := g 2 (by omega)
  rw [Nat.add_zero] at g0
  refine ⟨_, rfl, ?_, ?_, ?_⟩
  · rw [r, List.getElem?_toArray, g0]; rfl
  · rw [r, List.getElem?_toArray, g1]; rfl
  · rw [r, List.getElem?_toArray, g2]; rfl
/-- The pool turned. -/
theorem WhM.pool' {pile' : List Nat} {ls' : Nat → List Nat} (h : WhM w f room s) (ht : Tn [f.pp, f.bl, f.be] w w') (hp : PoolAt w' f.pp f.bl f.be room 258 pile' ls') : WhM w' f room { s with pile := pile', ls := ls' } := by
  have n := h.ne
  have g : ∀ b, b ≠ f.pp → b ≠ f.bl → b ≠ f.be → b ∉ [f.pp, f.bl, f.be] := fun b h1 h2 h3 => by simp [h1, h2, h3]
  exact ⟨ht.box h.box (g _ n.a1 n.a2 n.a3), ht.box h.tm (g _ n.b1 n.b2 n.b3), h.tl, h.mp.tn ht (g _ n.c1.symm n.c2.symm n.c3.symm), hp⟩
theorem tn_pool (h : Tn [f.pp, f.bl, f.be] w w') : Tn f.l w w' := h.mono (fun b hb => by simp [WhF.l] at hb ⊢; rcases hb with h | h | h <;> simp [h])
/-- A store into the struct. -/
theorem WhM.setW {i : Nat} {v : Value} {s' : WhS} (h : WhM w f room s) (hb : (#[.int .i64 s.now, .int .i64 s.turns, .pointer (some ⟨f.pp, 0, none⟩), .slice (some ⟨f.bt, 0, none⟩) room room, .map (some f.bm), .int .u64 (s.fb 0 : Nat), .int .u64 (s.fb 1 : Nat), .int .u64 (s.fb 2 : Nat), .int .u64 (s.fb 3 : Nat)] : Array Value).setIfInBounds i v = #[.int .i64 s'.now, .int .i64 s'.turns, .pointer (some ⟨f.pp, 0, none⟩), .slice (some ⟨f.bt, 0, none⟩) room room, .map (some f.bm), .int .u64 (s'.fb 0 : Nat), .int .u64 (s'.fb 1 : Nat), .int .u64 (s'.fb 2 : Nat), .int .u64 (s'.fb 3 : Nat)])
    (h1 : s'.ts = s.ts) (h2 : s'.M = s.M) (h3 : s'.sz = s.sz) (h4 : s'.pile = s.pile) (h5 : s'.ls = s.ls) : WhM (w.setCell ⟨f.pw, i, none⟩ v) f room s' := by
  have n := h.ne
  have ht : Tn [f.pw] w (w.setCell ⟨f.pw, i, none⟩ v) := (Tn.refl _ w).setCell (p := ⟨f.pw, i, none⟩) (by simp) v
  refine ⟨by rw [← hb]; exact box_set h.box v, by rw [h1]; exact ht.box h.tm (by simp [n.a4.symm]), by rw [h1]; exact h.tl, by rw [h2, h3]; exact h.mp.tn ht (by simp [n.a5.symm]), by rw [h4, h5]; exact h.pool.tn ht (by simp [n.a1.symm]) (by simp [n.a2.symm]) (by simp [n.a3.symm])⟩
theorem WhM.setNow (h : WhM w f room s) (v : Int) : WhM (w.setCell ⟨f.pw, 0, none⟩ (.int .i64 v)) f room { s with now := v } := h.setW (by rfl) rfl rfl rfl rfl rfl
theorem WhM.setTurns (h : WhM w f room s) (v : Int) : WhM (w.setCell ⟨f.pw, 1, none⟩ (.int .i64 v)) f room { s with turns := v } := h.setW (by rfl) rfl rfl rfl rfl rfl
def upF (fb : Nat → Nat) (L v : Nat) : Nat → Nat := fun j => if j = L then v else fb j
theorem WhM.setFb (h : WhM w f room s) {L : Nat} (hL : L < 4) (v : Nat) : WhM (w.setCell ⟨f.pw, 5 + L, none⟩ (.int .u64 (v : Nat))) f room { s with fb := upF s.fb L v } := by
  obtain rfl | rfl | rfl | rfl : L = 0 ∨ L = 1 ∨ L = 2 ∨ L = 3 := by omega
  all_goals exact h.setW (by rfl) rfl rfl rfl rfl rfl
/-- A timer is written. -/
theorem WhM.setTm (h : WhM w f room s) {i : Nat} (hi : i < room) (a b c : Int) : WhM (((w.setCell ⟨f.bt, i * 3, none⟩ (.int .i64 a)).setCell ⟨f.bt, i * 3 + 1, none⟩ (.int .i64 b)).setCell ⟨f.bt, i * 3 + 2, none⟩ (.int .i64 c)) f room { s with ts := s.ts.set i ⟨a, b, c⟩ } := by
  have n := h.ne
  have hl : i < s.ts.length := by rw [h.tl]; exact hi
  have ht : Tn [f.bt] w (((w.setCell ⟨f.bt, i * 3, none⟩ (.int .i64 a)).setCell ⟨f.bt, i * 3 + 1, none⟩ (.int .i64 b)).setCell ⟨f.bt, i * 3 + 2, none⟩ (.int .i64 c)) :=
    (((Tn.refl _ w).setCell (p := ⟨f.bt, i * 3, none⟩) (by simp) _).setCell (p := ⟨f.bt, i * 3 + 1, none⟩) (by simp) _).setCell (p := ⟨f.bt, i * 3 + 2, none⟩) (by simp) _
  have g1 := box_put (f := tmc) (k := 3) (j := 0) (d := tm0) (y := ⟨a, (s.ts.getD i tm0).at', (s.ts.getD i tm0).turn⟩) (u := .int .i64 a) (fun _ => rfl) h.tm hl (by omega) rfl
  rw [Nat.add_zero] at g1
  have g2 := box_put (f := tmc) (k := 3) (j := 1) (d := tm0) (y := ⟨a, b, (s.ts.getD i tm0).turn⟩) (u := .int .i64 b) (fun _ => rfl) g1 (by rw [List.length_set]; exact hl) (by omega) (by rw [pget_eq hl]; rfl)
  have g3 := box_put (f := tmc) (k := 3) (j := 2) (d := tm0) (y := ⟨a, b, c⟩) (u := .int .i64 c) (fun _ => rfl) g2 (by rw [List.length_set, List.length_set]; exact hl) (by omega) (by rw [set_set, pget_eq hl]; rfl)
  rw [set_set, set_set] at g3
  exact ⟨ht.box h.box (by simp [n.a4]), g3, by show (s.ts.set _ _).length = room; rw [List.length_set]; exact h.tl, h.mp.tn ht (by simp [n.b4.symm]), h.pool.tn ht (by simp [n.b1.symm]) (by simp [n.b2.symm]) (by simp [n.b3.symm])⟩
/-- The map turned. -/
theorem WhM.setMap {M' : Int → Option Int} {sz' : Nat} (h : WhM w f room s) (hg : w.grownBy w' (some f.bm)) (hm : MapN Tryz.prog 3 3 w' f.bm M' sz') : WhM w' f room { s with M := M', sz := sz' } := by
  have n := h.ne
  have ht : Tn [f.bm] w w' := (Tn.refl _ w).grown hg (fun k e => by cases e; simp)
  exact ⟨ht.box h.box (by simp [n.a5]), ht.box h.tm (by simp [n.b4]), h.tl, hm, h.pool.tn ht (by simp [n.c1]) (by simp [n.c2]) (by simp [n.c3])⟩
end
theorem wlen_any (f : WhF) (room : Nat) (s : WhS) (w : World) (h : WhM w f room s) :
    Calls Tryz.prog 27 #[.pointer (some ⟨f.pw, 0, none⟩)] w fun e w' => e = .returned (.int .i64 (s.sz : Nat)) ∧ w = w' := by
  obtain ⟨xx, xy⟩ := box_rules (h).box
  have xz := (box_rules (h).tm).2
  have lx := box_lt (h).box
  have hl := h.mp.len mt_ids 3
  clear h
  go_enter Tryz.func27, Tryz.ntmps27
  go_wp2
  go_ret
  exact ⟨rfl, rfl⟩
end Go.Proofs.YtiblpnadninmbaaGreatDoor

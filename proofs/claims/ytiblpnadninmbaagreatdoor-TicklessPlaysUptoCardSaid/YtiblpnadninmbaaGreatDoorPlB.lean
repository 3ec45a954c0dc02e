/- Package pool: the walks of has, put and out. Conditions: a pool's memory. -/
import Derived.Test.YtiblpnadninmbaaGreatDoorPlA
import Derived.Test.YtiblpnadninmbaaGreatDoorKitK
import Derived.Test.YtiblpnadninmbaaGreatDoorTn
import Derived.Deep.RegionLaw
import Derived.StillTailTactics
namespace Go.Proofs.YtiblpnadninmbaaGreatDoor
open Go.RowKit
attribute [local go_sem] Oper.semAt_some

def lkc (x : Lk) : List Value := [.int .i64 x.list, .int .i64 x.ahead, .int .i64 x.behind]
def enc (x : En) : List Value := [.int .i64 x.first, .int .i64 x.last]
/-- A pool's memory: its struct, the links, the ends. -/
structure PoM (w : World) (pp bl be n m : Nat) (p : Po) : Prop where
  box : w.heap[pp]? = some (.cells #[.slice (some ⟨bl, 0, none⟩) n n, .slice (some ⟨be, 0, none⟩) m m, .int .i64 p.top, .int .i64 p.free] 167 (0, 0))
  lk : w.heap[bl]? = some (.cells ⟨p.ks.flatMap lkc⟩ 169 (0, 0))
  en : w.heap[be]? = some (.cells ⟨p.es.flatMap enc⟩ 171 (0, 0))
  kn : p.ks.length = n
  em : p.es.length = m
theorem flat_get {α : Type} {f : α → List Value} {k : Nat} (hk : ∀ x, (f x).length = k) (d : α) : ∀ (l : List α) (i : Nat), i < l.length → ∀ j, j < k → (l.flatMap f)[i * k + j]? = (f (l.getD i d))[j]?
  | x :: l, 0, _, j, hj => by
    rw [List.flatMap_cons, Nat.zero_mul, Nat.zero_add, List.getElem?_append_left (by rw [hk]; exact hj)]
    rfl
  | x :: l, i + 1, hi, j, hj => by
    have ih := flat_get hk d l i (by simpa using hi) j hj
    rw [List.flatMap_cons, List.getElem?_append_right (by rw [hk, Nat.add_mul]; omega), hk, show (i + 1) * k + j - k = i * k + j by rw [Nat.add_mul]; omega, ih]
    rfl
section
variable {w : World} {pp bl be n m : Nat} {p : Po}
theorem PoM.lkAt (h : PoM w pp bl be n m p) {i : Nat} (hi : i < n) : ∃ x, p.ks.getD i lk0 = x ∧ w.cell? ⟨bl, i * 3, none⟩ = some (.int .i64 x.list) ∧ w.cell? ⟨bl, i * 3 + 1, none⟩ = some (.int .i64 x.ahead) ∧ w.cell? ⟨bl, i * 3 + 2, none⟩ = some (.int .i64 x.behind) := by
  have hl : i < p.ks.length := by rw [h.kn]; exact hi
  have g := flat_get (f := lkc) (k := 3) (fun _ => rfl) lk0 p.ks i hl
  obtain ⟨r, _⟩ := box_rules h.lk
  have g0 := g 0 (by omega); have g1 := g 1 (by omega); have g2 := g 2 (by omega)
  rw [Nat.add_zero] at g0
  refine ⟨_, rfl, ?_, ?_, ?_⟩
  · rw [r, List.getElem?_toArray, g0]; rfl
  · rw [r, List.getElem?_toArray, g1]; rfl
  · rw [r, List.getElem?_toArray, g2]; rfl
theorem PoM.enAt (h : PoM w pp bl be n m p) {i : Nat} (hi : i < m) : ∃ x, p.es.getD i en0 = x ∧ w.cell? ⟨be, i * 2, none⟩ = some (.int .i64 x.first) ∧ w.cell? ⟨be, i * 2 + 1, none⟩ = some (.int .i64 x.last) := by
  have hl : i < p.es.length := by rw [h.em]; exact hi
  have g := flat_get (f := enc) (k := 2) (fun _ => rfl) en0 p.es i hl
  obtain ⟨r, _⟩ := box_rules h.en
  have g0 := g 0 (by omega); have g1 := g 1 (by omega)
  rw [Nat.add_zero] at g0
  refine ⟨_, rfl, ?_, ?_⟩
  · rw [r, List.getElem?_toArray, g0]; rfl
  · rw [r, List.getElem?_toArray, g1]; rfl
end
theorem flat_setP {α : Type} {f : α → List Value} {k : Nat} (hk : ∀ x, (f x).length = k) {d : α} : ∀ (l : List α) (i j : Nat) (y : α) (u : Value), i < l.length → j < k → f y = (f (l.getD i d)).set j u → (l.flatMap f).set (i * k + j) u = (l.set i y).flatMap f
  | x :: l, 0, j, y, u, _, hj, h => by
    rw [List.flatMap_cons, List.set_cons_zero, List.flatMap_cons, Nat.zero_mul, Nat.zero_add, List.set_append_left _ _ (by rw [hk]; exact hj), h]
    rfl
  | x :: l, i + 1, j, y, u, hi, hj, h => by
    have ih := flat_setP hk (d := d) l i j y u (by simpa using hi) hj h
    rw [List.flatMap_cons, List.set_cons_succ, List.flatMap_cons, List.set_append_right _ _ (by rw [hk, Nat.add_mul]; omega), hk, show (i + 1) * k + j - k = i * k + j by rw [Nat.add_mul]; omega, ih]
/-- A cell of a row of structs is written: the row is that of the list whose element turned. -/
theorem box_put {α : Type} {f : α → List Value} {k : Nat} (hk : ∀ x, (f x).length = k) {d : α} {w : World} {b : Nat} {t : TypeId} {l : List α} (h : w.heap[b]? = some (.cells ⟨l.flatMap f⟩ t (0, 0))) {i j : Nat} {y : α} {u : Value} (hi : i < l.length) (hj : j < k) (hy : f y = (f (l.getD i d)).set j u) :
    (w.setCell ⟨b, i * k + j, none⟩ u).heap[b]? = some (.cells ⟨(l.set i y).flatMap f⟩ t (0, 0)) := by
  have := box_set (i := i * k + j) h u
  rw [← flat_setP hk (d := d) l i j y u hi hj hy]
  simpa using this
theorem still_tailD {P : Program} {id : Nat} {Q : Exit → Act → World → Prop} {a : Act} {w : World} {ops : List Oper} (m : Nat) (hm : P.follows .mixedOrders = true) (hB : Region.lexTailB .any ops.toArray m = true)
    (h : wpStill P ops.toArray w.drew (fun a' => wpList P ops.toArray Q (ops.drop m) a' w.drew) (ops.take m) a) : (Code.region id ops.toArray true).wp P Q a w := wp_region_still_tail m hm hB h
section
variable {w : World} {pp bl be n m : Nat} {p : Po}
theorem PoM.ne (h : PoM w pp bl be n m p) : pp ≠ bl ∧ pp ≠ be ∧ bl ≠ be := by
  refine ⟨fun e => ?_, fun e => ?_, fun e => ?_⟩
  · have h1 := h.box; rw [e, h.lk] at h1; injection h1 with h1; injection h1 with _ h1; exact absurd h1 (by decide)
  · have h1 := h.box; rw [e, h.en] at h1; injection h1 with h1; injection h1 with _ h1; exact absurd h1 (by decide)
  · have h1 := h.lk; rw [e, h.en] at h1; injection h1 with h1; injection h1 with _ h1; exact absurd h1 (by decide)
theorem PoM.drewN (h : PoM w pp bl be n m p) (j : Nat) : PoM (w.drewN j) pp bl be n m p := ⟨h.box, h.lk, h.en, h.kn, h.em⟩
theorem PoM.drew (h : PoM w pp bl be n m p) : PoM w.drew pp bl be n m p := ⟨h.box, h.lk, h.en, h.kn, h.em⟩
theorem PoM.tn {F : List Nat} {w' : World} (h : PoM w pp bl be n m p) (ht : Tn F w w') (h1 : pp ∉ F) (h2 : bl ∉ F) (h3 : be ∉ F) : PoM w' pp bl be n m p := ⟨ht.box h.box h1, ht.box h.lk h2, ht.box h.en h3, h.kn, h.em⟩
theorem PoM.below {w' : World} (h : PoM w pp bl be n m p) (hb : Below w.heap.size w w') : PoM w' pp bl be n m p := h.tn (Tn.of_below [] hb) (by simp) (by simp) (by simp)
theorem PoM.setA (h : PoM w pp bl be n m p) {i : Nat} (hi : i < n) (v : Int) : PoM (w.setCell ⟨bl, i * 3 + 1, none⟩ (.int .i64 v)) pp bl be n m { p with ks := p.ks.set i { p.ks.getD i lk0 with ahead := v } } := by
  obtain ⟨n1, n2, n3⟩ := h.ne
  exact ⟨box_far (p := ⟨bl, i * 3 + 1, none⟩) h.box n1 _, box_put (f := lkc) (k := 3) (d := lk0) (fun _ => rfl) h.lk (by rw [h.kn]; exact hi) (by omega) rfl, box_far (p := ⟨bl, i * 3 + 1, none⟩) h.en (fun e => n3 e.symm) _, by show (p.ks.set _ _).length = n; rw [List.length_set]; exact h.kn, h.em⟩
theorem PoM.setB (h : PoM w pp bl be n m p) {i : Nat} (hi : i < n) (v : Int) : PoM (w.setCell ⟨bl, i * 3 + 2, none⟩ (.int .i64 v)) pp bl be n m { p with ks := p.ks.set i { p.ks.getD i lk0 with behind := v } } := by
  obtain ⟨n1, n2, n3⟩ := h.ne
  exact ⟨box_far (p := ⟨bl, i * 3 + 2, none⟩) h.box n1 _, box_put (f := lkc) (k := 3) (d := lk0) (fun _ => rfl) h.lk (by rw [h.kn]; exact hi) (by omega) rfl, box_far (p := ⟨bl, i * 3 + 2, none⟩) h.en (fun e => n3 e.symm) _, by show (p.ks.set _ _).length = n; rw [List.length_set]; exact h.kn, h.em⟩
theorem PoM.setL (h : PoM w pp bl be n m p) {i : Nat} (hi : i < n) (v : Int) : PoM (w.setCell ⟨bl, i * 3, none⟩ (.int .i64 v)) pp bl be n m { p with ks := p.ks.set i { p.ks.getD i lk0 with list := v } } := by
  obtain ⟨n1, n2, n3⟩ := h.ne
  exact ⟨box_far (p := ⟨bl, i * 3, none⟩) h.box n1 _, box_put (f := lkc) (k := 3) (j := 0) (d := lk0) (fun _ => rfl) h.lk (by rw [h.kn]; exact hi) (by omega) rfl, box_far (p := ⟨bl, i * 3, none⟩) h.en (fun e => n3 e.symm) _, by show (p.ks.set _ _).length = n; rw [List.length_set]; exact h.kn, h.em⟩
theorem set_set {α : Type} (a b : α) : ∀ (l : List α) (i : Nat), (l.set i a).set i b = l.set i b
  | [], _ => rfl
  | _ :: _, 0 => rfl
  | x :: l, i + 1 => by show x :: (l.set i a).set i b = x :: l.set i b; rw [set_set a b l i]
theorem PoM.set3 (h : PoM w pp bl be n m p) {i : Nat} (hi : i < n) (a b c : Int) :
    PoM (((w.setCell ⟨bl, i * 3, none⟩ (.int .i64 a)).setCell ⟨bl, i * 3 + 1, none⟩ (.int .i64 b)).setCell ⟨bl, i * 3 + 2, none⟩ (.int .i64 c)) pp bl be n m { p with ks := p.ks.set i ⟨a, b, c⟩ } := by
  have h1 := ((h.setL hi a).setA hi b).setB hi c
  have hl : i < p.ks.length := by rw [h.kn]; exact hi
  dsimp only at h1
  rw [set_set, set_set, pget_eq (by rw [List.length_set]; exact hl), pget_eq hl] at h1
  exact h1
theorem PoM.setF (h : PoM w pp bl be n m p) {i : Nat} (hi : i < m) (v : Int) : PoM (w.setCell ⟨be, i * 2, none⟩ (.int .i64 v)) pp bl be n m { p with es := p.es.set i { p.es.getD i en0 with first := v } } := by
  obtain ⟨n1, n2, n3⟩ := h.ne
  exact ⟨box_far (p := ⟨be, i * 2, none⟩) h.box n2 _, box_far (p := ⟨be, i * 2, none⟩) h.lk n3 _, box_put (f := enc) (k := 2) (j := 0) (d := en0) (fun _ => rfl) h.en (by rw [h.em]; exact hi) (by omega) rfl, h.kn, by show (p.es.set _ _).length = m; rw [List.length_set]; exact h.em⟩
theorem PoM.setZ (h : PoM w pp bl be n m p) {i : Nat} (hi : i < m) (v : Int) : PoM (w.setCell ⟨be, i * 2 + 1, none⟩ (.int .i64 v)) pp bl be n m { p with es := p.es.set i { p.es.getD i en0 with last := v } } := by
  obtain ⟨n1, n2, n3⟩ := h.ne
  exact ⟨box_far (p := ⟨be, i * 2 + 1, none⟩) h.box n2 _, box_far (p := ⟨be, i * 2 + 1, none⟩) h.lk n3 _, box_put (f := enc) (k := 2) (d := en0) (fun _ => rfl) h.en (by rw [h.em]; exact hi) (by omega) rfl, h.kn, by show (p.es.set _ _).length = m; rw [List.length_set]; exact h.em⟩
theorem PoM.setTop (h : PoM w pp bl be n m p) (v : Int) : PoM (w.setCell ⟨pp, 2, none⟩ (.int .i64 v)) pp bl be n m { p with top := v } := by
  obtain ⟨n1, n2, n3⟩ := h.ne
  exact ⟨box_set (i := 2) h.box _, box_far (p := ⟨pp, 2, none⟩) h.lk (fun e => n1 e.symm) _, box_far (p := ⟨pp, 2, none⟩) h.en (fun e => n2 e.symm) _, h.kn, h.em⟩
theorem PoM.setFree (h : PoM w pp bl be n m p) (v : Int) : PoM (w.setCell ⟨pp, 3, none⟩ (.int .i64 v)) pp bl be n m { p with free := v } := by
  obtain ⟨n1, n2, n3⟩ := h.ne
  exact ⟨box_set (i := 3) h.box _, box_far (p := ⟨pp, 3, none⟩) h.lk (fun e => n1 e.symm) _, box_far (p := ⟨pp, 3, none⟩) h.en (fun e => n2 e.symm) _, h.kn, h.em⟩
end
set_option maxHeartbeats 2000000 in
set_option maxRecDepth 100000 in
theorem has_any (p : Po) (k : Int) (pp bl be n m : Nat) (w : World) (h : PoM w pp bl be n m p) :
    Calls Tryz.prog 87 #[.pointer (some ⟨pp, 0, none⟩), .int .i64 k] w fun e w' => e = .returned (.bool (decide (0 ≤ k ∧ k < m))) ∧ w = w' := by
  obtain ⟨xx, xy⟩ := box_rules h.box
  have lx := box_lt h.box
  by_cases h0 : 0 ≤ k
  · by_cases h1 : k < m
    · rw [decide_eq_true ⟨h0, h1⟩]
      go_enter Tryz.func87, Tryz.ntmps87
      go_wp2
      go_ret
      exact ⟨rfl, rfl⟩
    · rw [decide_eq_false (fun e => h1 e.2)]
      go_enter Tryz.func87, Tryz.ntmps87
      go_wp2
      go_ret
      exact ⟨by simp, rfl⟩
  · rw [decide_eq_false (fun e => h0 e.1)]
    go_enter Tryz.func87, Tryz.ntmps87
    go_wp2
    go_ret
    exact ⟨rfl, rfl⟩
set_option maxHeartbeats 2000000 in
set_option maxRecDepth 100000 in
theorem put_any (p : Po) (i k : Nat) (pp bl be n m : Nat) (w : World) (h : PoM w pp bl be n m p) (hi : i < n) (hk : k < m) (hl : (p.es.getD k en0).last = -1 ∨ ∃ y : Nat, y < n ∧ (p.es.getD k en0).last = y) :
    Calls Tryz.prog 88 #[.pointer (some ⟨pp, 0, none⟩), .int .i64 i, .int .i64 k] w fun e w' => e = .returned (.tuple #[]) ∧ PoM w' pp bl be n m (poPut p i k) ∧ Tn [pp, bl, be] w w' := by
  have H := Lib.hid h
  have hkl : k < p.es.length := by rw [h.em]; exact hk
  obtain ⟨e, he, e1, e2⟩ := h.enAt hk
  obtain ⟨x, hx, x1, x2, x3⟩ := h.lkAt hi
  obtain ⟨xx, xy⟩ := box_rules (h).box
  have fl := (box_rules (h).lk).2
  have fe := (box_rules (h).en).2
  have lx := box_lt (h).box
  rw [he] at hl
  obtain ⟨a1, a2⟩ := e
  have HE := Lib.hid he
  clear h he hx
  dsimp only at *
  go_enter Tryz.func88, Tryz.ntmps88
  go_upto_region 1 with fail
  refine still_tailD 12 (by kernel_rfl) (by kernel_rfl) ?_
  simp only [List.take_succ_cons, List.take_zero, List.drop_succ_cons, List.drop_zero]
  repeat still_step
  refine wpStill_nil ?_
  go_upto_region 2 with fail
  refine name_world fun V hV => ?_
  clear xx xy fl fe lx e1 e2 x1 x2 x3
  have HV := Lib.hid (show PoM V pp bl be n m _ by rw [hV]; exact (H.out.set3 hi k a2 (-1)).drew)
  have TV := Lib.hid (show Tn [pp, bl, be] w V by rw [hV]; exact ((((Tn.refl _ w).setCell (by simp) _).setCell (by simp) _).setCell (by simp) _).drew)
  clear hV
  obtain ⟨xx, xy⟩ := box_rules (HV.out).box
  have fl := (box_rules (HV.out).lk).2
  have fe := (box_rules (HV.out).en).2
  have lx := box_lt (HV.out).box
  obtain ⟨e', he', e1, e2⟩ := HV.out.enAt hk
  obtain rfl : (⟨a1, a2⟩ : En) = e' := HE.out.symm.trans he'
  clear he'
  dsimp only at *
  rcases hl with hl | ⟨y, hy, hl⟩
  · have HP := Lib.hid (show poPut p i k = { p with ks := p.ks.set i ⟨k, a2, -1⟩, es := p.es.set k ⟨i, i⟩ } by unfold poPut; rw [HE.out]; dsimp only; rw [if_pos hl])
    subst hl
    have t0 : ((-1 : Int) == -1) = true := by decide
    go_wp2
    go_end0
    refine ⟨rfl, ?_, (TV.out.setCell (by simp) _).setCell (by simp) _⟩
    have h9 := (HV.out.setF hk i).setZ hk i
    dsimp only at h9
    rw [set_set, pget_eq hkl] at h9
    rw [HP.out]
    exact h9
  · have HP := Lib.hid (show poPut p i k = { p with ks := (p.ks.set i ⟨k, a2, -1⟩).set y { (p.ks.set i ⟨k, a2, -1⟩).getD y lk0 with behind := (i : Int) }, es := p.es.set k ⟨a1, i⟩ } by unfold poPut; rw [HE.out]; dsimp only; rw [if_neg (by omega), hl, Int.toNat_natCast])
    subst hl
    have t0 : ((y : Int) == -1) = false := by simp
    obtain ⟨z, hz, z1, z2, z3⟩ := HV.out.lkAt hy
    go_upto_region 4 with fail
    refine still_tailD 11 (by kernel_rfl) (by kernel_rfl) ?_
    simp only [List.take_succ_cons, List.take_zero, List.drop_succ_cons, List.drop_zero]
    repeat still_step
    refine wpStill_nil ?_
    go_upto_region 5 with fail
    refine name_world fun U hU => ?_
    clear xx xy fl fe lx e1 e2 z1 z2 z3
    have HU := Lib.hid (show PoM U pp bl be n m _ by rw [hU]; exact (HV.out.setB hy i).drew)
    have TU := Lib.hid (show Tn [pp, bl, be] w U by rw [hU]; exact (TV.out.setCell (by simp) _).drew)
    clear hU
    obtain ⟨xx, xy⟩ := box_rules (HU.out).box
    have fl := (box_rules (HU.out).lk).2
    have fe := (box_rules (HU.out).en).2
    have lx := box_lt (HU.out).box
    obtain ⟨e', he', e1, e2⟩ := HU.out.enAt hk
    go_wp2
    go_end0
    refine ⟨rfl, ?_, TU.out.setCell (by simp) _⟩
    have h9 := HU.out.setZ hk i
    dsimp only at h9
    rw [HE.out] at h9
    rw [HP.out]
    exact h9
theorem set_same {α : Type} {d : α} : ∀ (l : List α) (i : Nat), l.set i (l.getD i d) = l
  | [], _ => rfl
  | _ :: _, 0 => rfl
  | x :: l, i + 1 => by show x :: l.set i (l.getD i d) = x :: l; rw [set_same l i]
set_option maxHeartbeats 4000000 in
set_option maxRecDepth 100000 in
theorem out_any (p : Po) (i k : Nat) (ah bh : Int) (pp bl be n m : Nat) (w : World) (h : PoM w pp bl be n m p) (hi : i < n) (hk : k < m)
    (hx : p.ks.getD i lk0 = ⟨k, ah, bh⟩) (ha : ah = -1 ∨ ∃ y : Nat, y < n ∧ ah = y) (hz : bh = -1 ∨ ∃ y : Nat, y < n ∧ bh = y) :
    Calls Tryz.prog 95 #[.pointer (some ⟨pp, 0, none⟩), .int .i64 i] w fun e w' => e = .returned (.tuple #[]) ∧ PoM w' pp bl be n m (poOut p i) ∧ Tn [pp, bl, be] w w' := by
  have H := Lib.hid h
  have hkl : k < p.es.length := by rw [h.em]; exact hk
  obtain ⟨e, he, e1, e2⟩ := h.enAt hk
  obtain ⟨x, hx', x1, x2, x3⟩ := h.lkAt hi
  obtain rfl : x = ⟨k, ah, bh⟩ := hx'.symm.trans hx
  obtain ⟨xx, xy⟩ := box_rules (h).box
  have fl := (box_rules (h).lk).2
  have fe := (box_rules (h).en).2
  have lx := box_lt (h).box
  obtain ⟨a1, a2⟩ := e
  have HE := Lib.hid he
  have HX := Lib.hid hx
  clear h he hx hx'
  dsimp only at *
  go_enter Tryz.func95, Tryz.ntmps95
  go_upto_region 1 with fail
  refine name_world fun V hV => ?_
  have hbV : Below w.heap.size w V := by rw [hV]; exact (Below.refl _ _).alloc (Nat.le_refl _) _
  have HD : Hid (V.heap[w.heap.size]? = some (.cells #[.int .i64 k, .int .i64 ah, .int .i64 bh] 169 (0, 0))) := Lib.hid (by rw [hV]; exact heap_alloc_new _ _)
  have HV := Lib.hid (H.out.below hbV)
  have TV := Lib.hid (Tn.of_below [pp, bl, be] hbV)
  clear hV hbV xx xy fl fe lx e1 e2 x1 x2 x3
  have b1 : be ≠ w.heap.size := Nat.ne_of_lt (box_lt H.out.en)
  have b2 : bl ≠ w.heap.size := Nat.ne_of_lt (box_lt H.out.lk)
  generalize w.heap.size = D at *
  obtain ⟨dx, dy⟩ := box_rules HD.out
  have ld := box_lt HD.out
  obtain ⟨xx, xy⟩ := box_rules (HV.out).box
  have fl := (box_rules (HV.out).lk).2
  have fe := (box_rules (HV.out).en).2
  have lx := box_lt (HV.out).box
  obtain ⟨e', he', e1, e2⟩ := HV.out.enAt hk
  obtain rfl : (⟨a1, a2⟩ : En) = e' := HE.out.symm.trans he'
  clear he'
  dsimp only at *
  go_big_quiet (fail)
  go_upto_region 2 with fail
  refine name_world fun V2 hV2 => ?_
  clear xx xy fl fe lx e1 e2 dx dy ld
  have HD2 := Lib.hid (show (V2).heap[D]? = some (.cells #[.int .i64 k, .int .i64 ah, .int .i64 bh] 169 (0, 0)) by rw [hV2]; exact HD.out)
  have HV2 := Lib.hid (show PoM V2 pp bl be n m _ by rw [hV2]; exact HV.out.drewN _)
  have TV2 := Lib.hid (show Tn [pp, bl, be] w V2 by rw [hV2]; exact TV.out.drewN _)
  clear hV2
  obtain ⟨xx, xy⟩ := box_rules (HV2.out).box
  have fl := (box_rules (HV2.out).lk).2
  have fe := (box_rules (HV2.out).en).2
  have lx := box_lt (HV2.out).box
  obtain ⟨dx, dy⟩ := box_rules (HD2).out
  have ld := box_lt (HD2).out
  obtain ⟨e', he', e1, e2⟩ := HV2.out.enAt hk
  obtain rfl : (⟨a1, a2⟩ : En) = e' := HE.out.symm.trans he'
  clear he' HD HV TV
  dsimp only at *
  rcases ha with ha | ⟨y, hy, ha⟩
  · subst ha
    have t0 : ((-1 : Int) == -1) = true := by decide
    go_upto_region 5 with fail
    refine name_world fun U hU => ?_
    clear xx xy fl fe lx e1 e2 dx dy ld
    have HD3 := Lib.hid (show (U).heap[D]? = some (.cells #[.int .i64 k, .int .i64 (-1), .int .i64 bh] 169 (0, 0)) by rw [hU]; exact box_far (p := ⟨be, k * 2, none⟩) HD2.out (fun e => b1 e.symm) _)
    have HU := Lib.hid (show PoM U pp bl be n m _ by rw [hU]; exact HV2.out.setF hk bh)
    have TU := Lib.hid (show Tn [pp, bl, be] w U by rw [hU]; exact TV2.out.setCell (by simp) _)
    clear hU
    obtain ⟨xx, xy⟩ := box_rules (HU.out).box
    have fl := (box_rules (HU.out).lk).2
    have fe := (box_rules (HU.out).en).2
    have lx := box_lt (HU.out).box
    obtain ⟨dx, dy⟩ := box_rules (HD3).out
    have ld := box_lt (HD3).out
    obtain ⟨e', he', e1, e2⟩ := HU.out.enAt hk
    dsimp only at he'
    rw [pget_eq hkl, HE.out] at he'
    obtain rfl : (⟨bh, a2⟩ : En) = e' := he'
    clear HD2 HV2 TV2
    dsimp only at *
    rcases hz with hz | ⟨z, hzn, hz⟩
    · have HP := Lib.hid (show poOut p i = { p with es := p.es.set k ⟨bh, -1⟩ } by unfold poOut; rw [HX.out]; dsimp only; rw [Int.toNat_natCast k, HE.out]; simp only [if_true, if_pos hz])
      have t1 : (bh == -1) = true := by simpa using hz
      go_wp2
      go_end0
      refine ⟨rfl, ?_, TU.out.setCell (by simp) _⟩
      have h9 := HU.out.setZ hk (-1)
      dsimp only at h9
      rw [set_set, pget_eq hkl] at h9
      rw [HP.out]
      exact h9
    · have hz' : ¬ bh = -1 := by omega
      have HP0 := Lib.hid hz
      have HP := Lib.hid (show poOut p i = { p with ks := p.ks.set bh.toNat { p.ks.getD bh.toNat lk0 with ahead := (-1 : Int) }, es := p.es.set k ⟨bh, a2⟩ } by unfold poOut; rw [HX.out]; dsimp only; rw [Int.toNat_natCast k, HE.out]; simp only [if_true, if_neg hz'])
      have t1 : (bh == -1) = false := by simpa using hz'
      obtain ⟨q, hq, q1, q2, q3⟩ := HU.out.lkAt hzn
      clear hq hz'
      subst hz
      go_upto_region 7 with fail
      refine still_tailD 10 (by kernel_rfl) (by kernel_rfl) ?_
      simp only [List.take_succ_cons, List.take_zero, List.drop_succ_cons, List.drop_zero]
      repeat still_step
      refine wpStill_nil ?_
      go_wp2_with fail
      go_end0
      refine ⟨rfl, ?_, (TU.out.setCell (by simp) _).drew⟩
      have h9 := (HU.out.setA hzn (-1)).drew
      dsimp only at h9
      rw [HE.out] at h9
      rw [HP.out, Int.toNat_natCast]
      exact h9
  · have ha' : ¬ ah = -1 := by omega
    have t0 : (ah == -1) = false := by simpa using ha'
    obtain ⟨q, hq, q1, q2, q3⟩ := HV2.out.lkAt hy
    clear hq
    have hsame := set_same (d := en0) p.es k
    rw [HE.out] at hsame
    have HSm := Lib.hid hsame
    clear hsame
    subst ha
    go_upto_region 4 with fail
    refine still_tailD 10 (by kernel_rfl) (by kernel_rfl) ?_
    simp only [List.take_succ_cons, List.take_zero, List.drop_succ_cons, List.drop_zero]
    repeat still_step
    refine wpStill_nil ?_
    go_upto_region 5 with fail
    refine name_world fun U hU => ?_
    clear xx xy fl fe lx e1 e2 dx dy ld q1 q2 q3
    have HD3 := Lib.hid (show (U).heap[D]? = some (.cells #[.int .i64 k, .int .i64 (y : Int), .int .i64 bh] 169 (0, 0)) by rw [hU]; exact box_far (p := ⟨bl, y * 3 + 2, none⟩) HD2.out (fun e => b2 e.symm) _)
    have HU := Lib.hid (show PoM U pp bl be n m _ by rw [hU]; exact (HV2.out.setB hy bh).drew)
    have TU := Lib.hid (show Tn [pp, bl, be] w U by rw [hU]; exact (TV2.out.setCell (by simp) _).drew)
    clear hU
    obtain ⟨xx, xy⟩ := box_rules (HU.out).box
    have fl := (box_rules (HU.out).lk).2
    have fe := (box_rules (HU.out).en).2
    have lx := box_lt (HU.out).box
    obtain ⟨dx, dy⟩ := box_rules (HD3).out
    have ld := box_lt (HD3).out
    obtain ⟨e', he', e1, e2⟩ := HU.out.enAt hk
    obtain rfl : (⟨a1, a2⟩ : En) = e' := HE.out.symm.trans he'
    clear he' HD2 HV2 TV2
    dsimp only at *
    rcases hz with hz | ⟨z, hzn, hz⟩
    · have HP := Lib.hid (show poOut p i = { p with ks := p.ks.set y { p.ks.getD y lk0 with behind := bh }, es := p.es.set k ⟨a1, (y : Int)⟩ } by unfold poOut; rw [HX.out]; dsimp only; rw [Int.toNat_natCast k, HE.out]; simp only [if_neg ha', if_pos hz, Int.toNat_natCast])
      have t1 : (bh == -1) = true := by simpa using hz
      go_wp2
      go_end0
      refine ⟨rfl, ?_, TU.out.setCell (by simp) _⟩
      have h9 := HU.out.setZ hk (y : Int)
      dsimp only at h9
      rw [HE.out] at h9
      rw [HP.out]
      exact h9
    · have hz' : ¬ bh = -1 := by omega
      have HP := Lib.hid (show poOut p i = { p with ks := (p.ks.set y { p.ks.getD y lk0 with behind := bh }).set bh.toNat { (p.ks.set y { p.ks.getD y lk0 with behind := bh }).getD bh.toNat lk0 with ahead := (y : Int) }, es := p.es.set k ⟨a1, a2⟩ } by unfold poOut; rw [HX.out]; dsimp only; rw [Int.toNat_natCast k, HE.out]; simp only [if_neg ha', if_neg hz', Int.toNat_natCast])
      have t1 : (bh == -1) = false := by simpa using hz'
      obtain ⟨q, hq, q1, q2, q3⟩ := HU.out.lkAt hzn
      clear hq hz'
      subst hz
      go_upto_region 7 with fail
      refine still_tailD 10 (by kernel_rfl) (by kernel_rfl) ?_
      simp only [List.take_succ_cons, List.take_zero, List.drop_succ_cons, List.drop_zero]
      repeat still_step
      refine wpStill_nil ?_
      go_wp2_with fail
      go_end0
      refine ⟨rfl, ?_, (TU.out.setCell (by simp) _).drew⟩
      have h9 := (HU.out.setA hzn (y : Int)).drew
      dsimp only at h9
      rw [HP.out, Int.toNat_natCast, HSm.out]
      exact h9
end Go.Proofs.YtiblpnadninmbaaGreatDoor

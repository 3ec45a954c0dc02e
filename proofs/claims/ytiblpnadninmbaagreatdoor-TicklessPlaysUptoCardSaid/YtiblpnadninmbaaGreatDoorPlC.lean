/- Package pool: the walks of Where, First, Next, Take, Give and Move, of pools as lists and a pile. Conditions: a pool's memory. -/
import Derived.Test.YtiblpnadninmbaaGreatDoorPlB
import Derived.Deep.QuietTactic
namespace Go.Proofs.YtiblpnadninmbaaGreatDoor
open Go.RowKit
attribute [local go_sem] Oper.semAt_some

/-- A pool in memory: n entries, m lists, the pile and the lists. -/
def PoolAt (w : World) (pp bl be n m : Nat) (pile : List Nat) (ls : Nat → List Nat) : Prop := ∃ p, PoM w pp bl be n m p ∧ PoI p n m pile ls
/-- The first of a list, and whether there is one. -/
def fstV (l : List Nat) : Value := match l with | [] => .tuple #[.int .i64 0, .bool false] | i :: _ => .tuple #[.int .i64 (i : Int), .bool true]
section
variable {w w' : World} {pp bl be n m : Nat} {pile : List Nat} {ls : Nat → List Nat}
theorem PoolAt.tn {F : List Nat} (h : PoolAt w pp bl be n m pile ls) (ht : Tn F w w') (h1 : pp ∉ F) (h2 : bl ∉ F) (h3 : be ∉ F) : PoolAt w' pp bl be n m pile ls := by
  obtain ⟨p, a, b⟩ := h
  exact ⟨p, a.tn ht h1 h2 h3, b⟩
theorem PoolAt.below (h : PoolAt w pp bl be n m pile ls) (hb : Below w.heap.size w w') : PoolAt w' pp bl be n m pile ls := by
  obtain ⟨p, a, b⟩ := h
  exact ⟨p, a.below hb, b⟩
theorem PoolAt.drewN (h : PoolAt w pp bl be n m pile ls) (j : Nat) : PoolAt (w.drewN j) pp bl be n m pile ls := by
  obtain ⟨p, a, b⟩ := h
  exact ⟨p, a.drewN j, b⟩
theorem PoolAt.lt (h : PoolAt w pp bl be n m pile ls) : pp < w.heap.size ∧ bl < w.heap.size ∧ be < w.heap.size := by
  obtain ⟨p, a, b⟩ := h
  exact ⟨box_lt a.box, box_lt a.lk, box_lt a.en⟩
/-- An entry's link, by where it stands. -/
theorem PoI.link {p : Po} (h : PoI p n m pile ls) {k i : Nat} {a b : List Nat} (hk : k < m) (hab : ls k = a ++ i :: b) : i < n ∧ p.ks.getD i lk0 = ⟨k, laO (-1) a, hdO b (-1)⟩ := by
  have hs := h.ll k hk
  rw [hab] at hs
  obtain ⟨_, s2, s3, _⟩ := seg_app.1 hs
  exact ⟨by rw [← h.kn]; exact s2, s3⟩
theorem PoI.in_lt {p : Po} (h : PoI p n m pile ls) {k i : Nat} (hk : k < m) (hi : i ∈ ls k) : i < n := by
  obtain ⟨a, b, hab⟩ := List.append_of_mem hi
  exact (h.link hk hab).1
theorem hd_ok {P : Nat → Prop} {l : List Nat} (h : ∀ x ∈ l, P x) : hdO l (-1) = -1 ∨ ∃ y : Nat, P y ∧ hdO l (-1) = y := by
  cases l with
  | nil => exact .inl rfl
  | cons x r => exact .inr ⟨x, h x (by simp), rfl⟩
theorem la_ok {P : Nat → Prop} {l : List Nat} (h : ∀ x ∈ l, P x) : laO (-1) l = -1 ∨ ∃ y : Nat, P y ∧ laO (-1) l = y := by
  by_cases e : l = []
  · subst e; exact .inl rfl
  · obtain ⟨c, y, hc, hy⟩ := laO_nat (-1) l e
    exact .inr ⟨y, h y (by rw [hc]; simp), hy⟩
end
set_option maxHeartbeats 2000000 in
set_option maxRecDepth 100000 in
theorem where_any (k i : Nat) (pp bl be n m : Nat) (pile : List Nat) (ls : Nat → List Nat) (w : World) (h : PoolAt w pp bl be n m pile ls) (hk : k < m) (hi : i ∈ ls k) :
    Calls Tryz.prog 94 #[.pointer (some ⟨pp, 0, none⟩), .int .i64 i] w fun e w' => e = .returned (.tuple #[.int .i64 k, .int .i64 0]) ∧ w = w' := by
  obtain ⟨p, hm, hp⟩ := h
  obtain ⟨a, b, hab⟩ := List.append_of_mem hi
  obtain ⟨hin, hx⟩ := hp.link hk hab
  obtain ⟨x, hx', x1, x2, x3⟩ := hm.lkAt hin
  obtain rfl := hx'.symm.trans hx
  dsimp only at x1 x2 x3
  obtain ⟨xx, xy⟩ := box_rules (hm).box
  have fl := (box_rules (hm).lk).2
  have fe := (box_rules (hm).en).2
  have lx := box_lt (hm).box
  have t0 : ((k : Int) == -1) = false := by simp
  clear hx hx' hm hp hab hi
  go_enter Tryz.func94, Tryz.ntmps94
  go_wp2
  go_ret2
  exact ⟨rfl, rfl⟩
set_option maxHeartbeats 2000000 in
set_option maxRecDepth 100000 in
theorem first_any (k : Nat) (pp bl be n m : Nat) (pile : List Nat) (ls : Nat → List Nat) (w : World) (h : PoolAt w pp bl be n m pile ls) (hk : k < m) :
    Calls Tryz.prog 80 #[.pointer (some ⟨pp, 0, none⟩), .int .i64 k] w fun e w' => e = .returned (fstV (ls k)) ∧ w = w' := by
  obtain ⟨p, hm, hp⟩ := h
  obtain ⟨x, hx', x1, x2⟩ := hm.enAt hk
  obtain rfl := hx'.symm.trans (hp.le k hk)
  have f1 := Lib.hid (has_any p k pp bl be n m w hm)
  rw [decide_eq_true ⟨by omega, by omega⟩] at f1
  obtain ⟨xx, xy⟩ := box_rules (hm).box
  have fl := (box_rules (hm).lk).2
  have fe := (box_rules (hm).en).2
  have lx := box_lt (hm).box
  clear hx' hm hp
  cases hl : ls k with
  | nil =>
    rw [hl] at x1 x2
    dsimp only [hdO, laO, fstV] at *
    clear hl
    go_enter Tryz.func80, Tryz.ntmps80
    go_wp2_with (go_at_call 87; with_reducible refine f1.out.mono ?_; rintro e w1 ⟨rfl, rfl⟩)
    go_ret2
    exact ⟨rfl, rfl⟩
  | cons i r =>
    rw [hl] at x1 x2
    dsimp only [hdO, fstV] at *
    clear hl
    have t0 : ((i : Int) == -1) = false := by simp
    go_enter Tryz.func80, Tryz.ntmps80
    go_wp2_with (go_at_call 87; with_reducible refine f1.out.mono ?_; rintro e w1 ⟨rfl, rfl⟩)
    go_ret2
    exact ⟨rfl, rfl⟩
set_option maxHeartbeats 2000000 in
set_option maxRecDepth 100000 in
theorem next_any (k i : Nat) (a b : List Nat) (pp bl be n m : Nat) (pile : List Nat) (ls : Nat → List Nat) (w : World) (h : PoolAt w pp bl be n m pile ls) (hk : k < m) (hab : ls k = a ++ i :: b) :
    Calls Tryz.prog 100 #[.pointer (some ⟨pp, 0, none⟩), .int .i64 i] w fun e w' => e = .returned (fstV b) ∧ w = w' := by
  have f1 := Lib.hid (where_any k i pp bl be n m pile ls w h hk (by rw [hab]; simp))
  obtain ⟨p, hm, hp⟩ := h
  obtain ⟨hin, hx⟩ := hp.link hk hab
  obtain ⟨x, hx', x1, x2, x3⟩ := hm.lkAt hin
  obtain rfl := hx'.symm.trans hx
  dsimp only at x1 x2 x3
  obtain ⟨xx, xy⟩ := box_rules (hm).box
  have fl := (box_rules (hm).lk).2
  have fe := (box_rules (hm).en).2
  have lx := box_lt (hm).box
  clear hx hx' hm hp hab
  cases b with
  | nil =>
    dsimp only [hdO, fstV] at *
    go_enter Tryz.func100, Tryz.ntmps100
    go_wp2_with (go_at_call 94; with_reducible refine f1.out.mono ?_; rintro e w1 ⟨rfl, rfl⟩)
    go_ret2
    exact ⟨rfl, rfl⟩
  | cons j r =>
    dsimp only [hdO, fstV] at *
    have t0 : ((j : Int) == -1) = false := by simp
    go_enter Tryz.func100, Tryz.ntmps100
    go_wp2_with (go_at_call 94; with_reducible refine f1.out.mono ?_; rintro e w1 ⟨rfl, rfl⟩)
    go_ret2
    exact ⟨rfl, rfl⟩
set_option maxHeartbeats 2000000 in
set_option maxRecDepth 100000 in
theorem take_none (k : Nat) (pp bl be n m : Nat) (ls : Nat → List Nat) (w : World) (h : PoolAt w pp bl be n m [] ls) (hk : k < m) :
    Calls Tryz.prog 69 #[.pointer (some ⟨pp, 0, none⟩), .int .i64 k] w fun e w' => e = .returned (.tuple #[.int .i64 0, .int .i64 5]) ∧ w = w' := by
  obtain ⟨p, hm, hp⟩ := h
  have f1 := Lib.hid (has_any p k pp bl be n m w hm)
  rw [decide_eq_true ⟨by omega, by omega⟩] at f1
  have ht : p.top = -1 := hp.top
  obtain ⟨xx, xy⟩ := box_rules (hm).box
  have fl := (box_rules (hm).lk).2
  have fe := (box_rules (hm).en).2
  have lx := box_lt (hm).box
  clear hm hp
  go_enter Tryz.func69, Tryz.ntmps69
  go_wp2_with (go_at_call 87; with_reducible refine f1.out.mono ?_; rintro e w1 ⟨rfl, rfl⟩)
  go_ret2
  exact ⟨rfl, rfl⟩
set_option maxHeartbeats 2000000 in
set_option maxRecDepth 100000 in
theorem take_some (k i : Nat) (r : List Nat) (pp bl be n m : Nat) (ls : Nat → List Nat) (w : World) (h : PoolAt w pp bl be n m (i :: r) ls) (hk : k < m) (hn : n ≤ 4096) :
    Calls Tryz.prog 69 #[.pointer (some ⟨pp, 0, none⟩), .int .i64 k] w fun e w' => e = .returned (.tuple #[.int .i64 i, .int .i64 0]) ∧ PoolAt w' pp bl be n m r (upL ls k (ls k ++ [i])) ∧ Tn [pp, bl, be] w w' := by
  obtain ⟨p, hm, hp⟩ := h
  have f1 := Lib.hid (has_any p k pp bl be n m w hm)
  rw [decide_eq_true ⟨by omega, by omega⟩] at f1
  obtain ⟨hp2, ho, ht⟩ := po_take hp
  obtain ⟨x, hx, x1, x2, x3⟩ := hm.lkAt ho.lt
  rw [hx] at hp2
  have hlk := pile_lt hp.pl
  have hfr : p.free = ((r.length + 1 : Nat) : Int) := hp.free
  have hlen : (i :: r).length ≤ n := nodup_le (i :: r) n hp.np (fun y hy => by rw [← hp.kn]; exact hlk y hy)
  rw [List.length_cons] at hlen
  have hwr : IntKind.i64.wrap (p.free - 1) = p.free - 1 := IntWalk.i64_in _ (by omega)
  have hla : (p.es.getD k en0).last = -1 ∨ ∃ y : Nat, y < n ∧ (p.es.getD k en0).last = y := by
    rw [hp.le k hk]; exact la_ok (fun y hy => hp.in_lt hk hy)
  have HP := Lib.hid (po_put hp2 hk ho)
  have HM := Lib.hid hm
  have hm3 := (hm.setTop x.behind).setFree (p.free - 1)
  have f2 := Lib.hid (fun X (h : PoM X pp bl be n m { p with top := x.behind, free := p.free - 1 }) => put_any { p with top := x.behind, free := p.free - 1 } i k pp bl be n m X h ho.lt hk hla)
  have HM3 := Lib.hid hm3
  have HT3 : Hid (Tn [pp, bl, be] w ((w.setCell ⟨pp, 2, none⟩ (.int .i64 x.behind)).setCell ⟨pp, 3, none⟩ (.int .i64 (p.free - 1)))) := Lib.hid (((Tn.refl _ w).setCell (by simp) _).setCell (by simp) _)
  have hin := ho.lt
  have t0 : ((i : Int) == -1) = false := by simp
  obtain ⟨xx, xy⟩ := box_rules (hm).box
  have fl := (box_rules (hm).lk).2
  have fe := (box_rules (hm).en).2
  have lx := box_lt (hm).box
  rw [ht] at xx
  clear hx hm hp hp2 ho hm3 hla hfr hlen hlk ht
  go_enter Tryz.func69, Tryz.ntmps69
  go_wp2_with (first
    | (go_at_call 87; with_reducible refine f1.out.mono ?_; rintro e w1 ⟨rfl, rfl⟩)
    | (go_at_call 88; with_reducible refine (f2.out _ HM3.out).mono ?_; rintro e w2 ⟨rfl, hm2, ht2⟩; have HM2 := Lib.hid hm2; have HT2 := Lib.hid ht2; clear hm2 ht2))
  go_ret2
  exact ⟨rfl, ⟨_, HM2.out, HP.out⟩, HT3.out.trans HT2.out⟩
set_option maxHeartbeats 2000000 in
set_option maxRecDepth 100000 in
theorem give_any (k i : Nat) (a b : List Nat) (pp bl be n m : Nat) (pile : List Nat) (ls : Nat → List Nat) (w : World) (h : PoolAt w pp bl be n m pile ls) (hk : k < m) (hab : ls k = a ++ i :: b) (hn : n ≤ 4096) :
    Calls Tryz.prog 96 #[.pointer (some ⟨pp, 0, none⟩), .int .i64 i] w fun e w' => e = .returned (.int .i64 0) ∧ PoolAt w' pp bl be n m (i :: pile) (upL ls k (a ++ b)) ∧ Tn [pp, bl, be] w w' := by
  have f1 := Lib.hid (where_any k i pp bl be n m pile ls w h hk (by rw [hab]; simp))
  obtain ⟨p, hm, hp⟩ := h
  obtain ⟨hin, hx⟩ := hp.link hk hab
  have hia : i ∈ ls k := by rw [hab]; simp
  have hia2 : ∀ x, x ∈ a ∨ x ∈ b → x < n := fun x hx => hp.in_lt hk (by rw [hab]; rcases hx with h | h <;> simp [h])
  obtain ⟨hp2, ho⟩ := po_out hp hk hab
  have f2 := Lib.hid (out_any p i k _ _ pp bl be n m w hm hin hk hx (la_ok (fun y hy => hia2 y (.inl hy))) (hd_ok (fun y hy => hia2 y (.inr hy))))
  have HP := Lib.hid (po_give hp2 ho)
  have hfr : (poOut p i).free = (pile.length : Int) := hp2.free
  have hlen : (i :: pile).length ≤ n := nodup_le (i :: pile) n (List.nodup_cons.2 ⟨ho.np, hp2.np⟩) (fun y hy => by
    rcases List.mem_cons.1 hy with rfl | hy
    · exact hin
    · rw [← hp2.kn]; exact pile_lt hp2.pl y hy)
  rw [List.length_cons] at hlen
  generalize poOut p i = P at *
  have hwr : IntKind.i64.wrap (P.free + 1) = P.free + 1 := IntWalk.i64_in _ (by omega)
  clear hm hp hx hia hia2 hp2 ho hfr hlen hab
  go_enter Tryz.func96, Tryz.ntmps96
  go_upto_region 4 with (go_at_call 94; with_reducible refine f1.out.mono ?_; rintro e w1 ⟨rfl, rfl⟩)
  go_upto_region 5 with (go_at_call 95; with_reducible refine f2.out.mono ?_; rintro e w2 ⟨rfl, hm2, ht2⟩; have HM2 := Lib.hid hm2; have HT2 := Lib.hid ht2; clear hm2 ht2)
  obtain ⟨xx, xy⟩ := box_rules (HM2.out).box
  have fl := (box_rules (HM2.out).lk).2
  have fe := (box_rules (HM2.out).en).2
  have lx := box_lt (HM2.out).box
  obtain ⟨x, hx, x1, x2, x3⟩ := HM2.out.lkAt hin
  clear hx
  refine still_tailD 11 (by kernel_rfl) (by kernel_rfl) ?_
  simp only [List.take_succ_cons, List.take_zero, List.drop_succ_cons, List.drop_zero]
  repeat still_step
  refine wpStill_nil ?_
  go_upto_region 6 with fail
  refine name_world fun V hV => ?_
  clear xx xy fl fe lx x1 x2 x3
  have HMV := Lib.hid (show PoM V pp bl be n m _ by rw [hV]; exact (HM2.out.set3 hin (-1) (-1) P.top).drew)
  have HTV := Lib.hid (show Tn [pp, bl, be] w V by rw [hV]; exact (((HT2.out.setCell (by simp) _).setCell (by simp) _).setCell (by simp) _).drew)
  clear hV
  obtain ⟨xx, xy⟩ := box_rules (HMV.out).box
  have fl := (box_rules (HMV.out).lk).2
  have fe := (box_rules (HMV.out).en).2
  have lx := box_lt (HMV.out).box
  dsimp only at xx
  go_wp2
  go_ret
  exact ⟨rfl, ⟨_, (HMV.out.setTop i).setFree (P.free + 1), HP.out⟩, (HTV.out.setCell (by simp) _).setCell (by simp) _⟩
set_option maxHeartbeats 2000000 in
set_option maxRecDepth 100000 in
theorem move_any (k k' i : Nat) (a b : List Nat) (pp bl be n m : Nat) (pile : List Nat) (ls : Nat → List Nat) (w : World) (h : PoolAt w pp bl be n m pile ls) (hk : k < m) (hk' : k' < m) (hab : ls k = a ++ i :: b) :
    Calls Tryz.prog 83 #[.pointer (some ⟨pp, 0, none⟩), .int .i64 i, .int .i64 k'] w fun e w' => e = .returned (.int .i64 0) ∧ PoolAt w' pp bl be n m pile (upL (upL ls k (a ++ b)) k' (upL ls k (a ++ b) k' ++ [i])) ∧ Tn [pp, bl, be] w w' := by
  have f1 := Lib.hid (where_any k i pp bl be n m pile ls w h hk (by rw [hab]; simp))
  obtain ⟨p, hm, hp⟩ := h
  have f0 := Lib.hid (has_any p k' pp bl be n m w hm)
  rw [decide_eq_true ⟨by omega, by omega⟩] at f0
  obtain ⟨hin, hx⟩ := hp.link hk hab
  have hia2 : ∀ x, x ∈ a ∨ x ∈ b → x < n := fun x hx => hp.in_lt hk (by rw [hab]; rcases hx with h | h <;> simp [h])
  obtain ⟨hp2, ho⟩ := po_out hp hk hab
  have f2 := Lib.hid (out_any p i k _ _ pp bl be n m w hm hin hk hx (la_ok (fun y hy => hia2 y (.inl hy))) (hd_ok (fun y hy => hia2 y (.inr hy))))
  have hla : ((poOut p i).es.getD k' en0).last = -1 ∨ ∃ y : Nat, y < n ∧ ((poOut p i).es.getD k' en0).last = y := by
    rw [hp2.le k' hk']; exact la_ok (fun y hy => hp2.in_lt hk' hy)
  have HP := Lib.hid (po_put hp2 hk' ho)
  generalize poOut p i = P at *
  have f3 := Lib.hid (fun X (h : PoM X pp bl be n m P) => put_any P i k' pp bl be n m X h hin hk' hla)
  clear hm hp hx hia2 hp2 ho hab hla
  go_enter Tryz.func83, Tryz.ntmps83
  go_wp2_with (first
    | (go_at_call 94; with_reducible refine f1.out.mono ?_; rintro e w1 ⟨rfl, rfl⟩)
    | (go_at_call 87; with_reducible refine f0.out.mono ?_; rintro e w1 ⟨rfl, rfl⟩)
    | (go_at_call 95; with_reducible refine f2.out.mono ?_; rintro e w2 ⟨rfl, hm2, ht2⟩; have HM2 := Lib.hid hm2; have HT2 := Lib.hid ht2; clear hm2 ht2)
    | (go_at_call 88; with_reducible refine (f3.out _ HM2.out).mono ?_; rintro e w3 ⟨rfl, hm3, ht3⟩; have HM3 := Lib.hid hm3; have HT3 := Lib.hid (HT2.out.trans ht3); clear hm3 ht3))
  go_ret
  exact ⟨rfl, ⟨_, HM3.out, HP.out⟩, HT3.out⟩
end Go.Proofs.YtiblpnadninmbaaGreatDoor

/- Package wheel: the walks of drop, Cancel and Insert. Conditions: a wheel's memory. -/
import Derived.Test.YtiblpnadninmbaaGreatDoorWhDY
namespace Go.Proofs.YtiblpnadninmbaaGreatDoor
open Go.RowKit Go.Shelf
attribute [local go_sem] Oper.semAt_some

/-- A wheel behind a look at a list. -/
def noteS (s : WhS) (k : Nat) : WhS := if k < 256 then { s with fb := upF s.fb (k / 64) (noteF s (k / 64) (k % 64)) } else s
/-- The words of a wheel are words. -/
def FbL (s : WhS) : Prop := ∀ L, L < 4 → s.fb L < 18446744073709551616
theorem noteF_lt (s : WhS) (L n : Nat) (h : s.fb L < 18446744073709551616) (hn : n < 64) : noteF s L n < 18446744073709551616 := by
  unfold noteF
  split
  · exact Nat.lt_of_le_of_lt Nat.and_le_left h
  · exact Nat.or_lt_two_pow (n := 64) h (pow_lt64 hn)
theorem noteS_fbl {s : WhS} {k : Nat} (h : FbL s) : FbL (noteS s k) := by
  unfold noteS
  split
  · intro L hL
    show upF s.fb _ _ L < _
    unfold upF
    split
    · rename_i e
      exact noteF_lt s _ _ (h _ (by omega)) (by omega)
    · exact h L hL
  · exact h
theorem note_all (f : WhF) (room : Nat) (s : WhS) (w : World) (k : Nat) (h : WhM w f room s) (hf : FbL s) :
    Calls Tryz.prog 70 #[.pointer (some ⟨f.pw, 0, none⟩), .int .i64 k] w fun e w' => e = .returned (.tuple #[]) ∧ WhM w' f room (noteS s k) ∧ Tn f.l w w' := by
  by_cases hk : k < 256
  · have h9 := note_any f room s w (k / 64) (k % 64) h (by omega) (by omega) (hf _ (by omega))
    rw [show 64 * (k / 64) + k % 64 = k by omega] at h9
    unfold noteS
    rw [if_pos hk]
    exact h9
  · unfold noteS
    rw [if_neg hk]
    exact (note_high f k w (by omega)).mono fun e w' ⟨h1, h2⟩ => ⟨h1, h2 ▸ h, h2 ▸ Tn.refl _ _⟩
/-- A wheel without an entry. -/
def outS (s : WhS) (k i : Nat) (a b : List Nat) : WhS :=
  { s with pile := i :: s.pile, ls := upL s.ls k (a ++ b), M := fun x => if x = (s.ts.getD i tm0).id then none else s.M x, sz := s.sz - 1 }
set_option maxHeartbeats 4000000 in
set_option maxRecDepth 100000 in
theorem drop_any (f : WhF) (room : Nat) (s : WhS) (w : World) (k i : Nat) (a b : List Nat) (h : WhM w f room s) (hf : FbL s) (hr : room ≤ 4096) (hk : k < 258) (hab : s.ls k = a ++ i :: b) (hi : i < room)
    (hid : I64N (s.ts.getD i tm0).id) (hm : (s.M (s.ts.getD i tm0).id).isSome = true) :
    Calls Tryz.prog 84 #[.pointer (some ⟨f.pw, 0, none⟩), .int .i64 i] w fun e w' => e = .returned (.tuple #[]) ∧ WhM w' f room (noteS (outS s k i a b) k) ∧ Tn f.l w w' := by
  have H := Lib.hid h
  have f1 := Lib.hid (where_any k i f.pp f.bl f.be room 258 s.pile s.ls w h.pool hk (by rw [hab]; simp))
  have f2 := Lib.hid (give_any k i a b f.pp f.bl f.be room 258 s.pile s.ls w h.pool hk hab hr)
  have f3 := Lib.hid (fun X (hX : WhM X f room (outS s k i a b)) => note_all f room (outS s k i a b) X k hX hf)
  have HO : Hid (outS s k i a b = { s with pile := i :: s.pile, ls := upL s.ls k (a ++ b), M := fun x => if x = (s.ts.getD i tm0).id then none else s.M x, sz := s.sz - 1 }) := Lib.hid rfl
  have Hid' := Lib.hid hid; have Hm := Lib.hid hm
  obtain ⟨xx, xy⟩ := box_rules (h).box
  have xz := (box_rules (h).tm).2
  have lx := box_lt (h).box
  generalize outS s k i a b = S' at *
  clear h hf hab hid hm
  go_enter Tryz.func84, Tryz.ntmps84
  go_upto_region 1 with (go_at_call 94; with_reducible refine f1.out.mono ?_; rintro e w1 ⟨rfl, rfl⟩)
  go_upto_region 2 with (go_at_call 96; with_reducible refine f2.out.mono ?_; rintro e w2 ⟨rfl, hp2, ht2⟩; have HM2 := Lib.hid (H.out.pool' ht2 hp2); have HT2 := Lib.hid (tn_pool ht2); clear hp2 ht2)
  clear f1 f2 xx xy xz lx
  obtain ⟨xx, xy⟩ := box_rules (HM2.out).box
  have xz := (box_rules (HM2.out).tm).2
  have lx := box_lt (HM2.out).box
  obtain ⟨x, hx, x1, x2, x3⟩ := HM2.out.tmAt hi
  have hx' : s.ts.getD i tm0 = x := hx
  rw [hx'] at HO Hid' Hm
  obtain ⟨w3, hrun, hm3, hg3⟩ := (HM2.out.drew).mp.del mt_ids Hid'.out 0
  have HM3 := Lib.hid (HM2.out.drew.setMap hg3 hm3)
  have HT3 := Lib.hid (HT2.out.drew.trans ((Tn.refl f.l _).grown hg3 (fun k e => by cases e; simp [WhF.l])))
  clear hm3 hg3
  refine still_tailD 13 (by kernel_rfl) (by kernel_rfl) ?_
  simp only [List.take_succ_cons, List.take_zero, List.drop_succ_cons, List.drop_zero]
  repeat still_step
  refine wpStill_nil ?_
  go_upto_region 3 with fail
  have HM4 : Hid (WhM w3 f room S') := Lib.hid (by
    rw [HO.out]
    have h9 := HM3.out
    rw [if_pos Hm.out] at h9
    exact h9)
  go_wp2_with (go_at_call 70; with_reducible refine (f3.out _ HM4.out).mono ?_; rintro e w4 ⟨rfl, hm4, ht4⟩; have HM5 := Lib.hid hm4; have HT5 := Lib.hid (HT3.out.trans ht4); clear hm4 ht4)
  go_end0
  exact ⟨rfl, HM5.out, HT5.out⟩
set_option maxHeartbeats 4000000 in
set_option maxRecDepth 100000 in
theorem cancel_none (f : WhF) (room : Nat) (s : WhS) (w : World) (id : Int) (h : WhM w f room s) (hi : I64N id) (hm : s.M id = none) :
    Calls Tryz.prog 55 #[.pointer (some ⟨f.pw, 0, none⟩), .int .i64 id] w fun e w' => e = .returned (.int .i64 3) ∧ w = w' := by
  obtain ⟨xx, xy⟩ := box_rules (h).box
  have xz := (box_rules (h).tm).2
  have lx := box_lt (h).box
  have hl := h.mp.look_ok mt_ids hi
  rw [hm] at hl
  clear h hm
  dsimp only [Option.getD_none, Option.isSome_none] at hl
  go_enter Tryz.func55, Tryz.ntmps55
  go_wp2
  go_ret
  exact ⟨rfl, rfl⟩
set_option maxHeartbeats 4000000 in
set_option maxRecDepth 100000 in
theorem cancel_some (f : WhF) (room : Nat) (s : WhS) (w : World) (id : Int) (k i : Nat) (a b : List Nat) (h : WhM w f room s) (hf : FbL s) (hr : room ≤ 4096) (hk : k < 258) (hab : s.ls k = a ++ i :: b) (hi : i < room)
    (hid : I64N id) (hm : s.M id = some (i : Int)) (hti : (s.ts.getD i tm0).id = id) :
    Calls Tryz.prog 55 #[.pointer (some ⟨f.pw, 0, none⟩), .int .i64 id] w fun e w' => e = .returned (.int .i64 0) ∧ WhM w' f room (noteS (outS s k i a b) k) ∧ Tn f.l w w' := by
  have f1 := Lib.hid (drop_any f room s w k i a b h hf hr hk hab hi (by rw [hti]; exact hid) (by rw [hti, hm]; rfl))
  obtain ⟨xx, xy⟩ := box_rules (h).box
  have xz := (box_rules (h).tm).2
  have lx := box_lt (h).box
  have hl := h.mp.look_ok mt_ids hid
  rw [hm] at hl
  clear h hm hti
  generalize noteS (outS s k i a b) k = S' at *
  clear hab
  dsimp only [Option.getD_some, Option.isSome_some] at hl
  go_enter Tryz.func55, Tryz.ntmps55
  go_wp2_with (go_at_call 84; with_reducible refine f1.out.mono ?_; rintro e w4 ⟨rfl, hm4, ht4⟩; have HM5 := Lib.hid hm4; have HT5 := Lib.hid ht4; clear hm4 ht4)
  go_ret
  exact ⟨rfl, HM5.out, HT5.out⟩
/-- A wheel with one more. -/
def insS (s : WhS) (id a : Int) (i : Nat) (r : List Nat) : WhS :=
  { s with turns := s.turns + 1, ts := s.ts.set i ⟨id, a, s.turns + 1⟩, M := fun x => if x = id then some (i : Int) else s.M x, sz := s.sz + 1, pile := r, ls := upL s.ls (homeF s.now a) (s.ls (homeF s.now a) ++ [i]) }
theorem ins_range (f : WhF) (id a : Int) (w : World) (h : ¬ (0 ≤ a ∧ a ≤ 4503599627370496)) :
    Calls Tryz.prog 45 #[.pointer (some ⟨f.pw, 0, none⟩), .int .i64 id, .int .i64 a] w fun e w' => e = .returned (.int .i64 1) ∧ w = w' := by
  by_cases h1 : a < 0
  · go_enter Tryz.func45, Tryz.ntmps45
    go_wp2
    go_ret
    exact ⟨rfl, rfl⟩
  · have h2 : 4503599627370496 < a := by omega
    have h3 : 0 ≤ a := by omega
    clear h h1
    go_enter Tryz.func45, Tryz.ntmps45
    go_wp2
    go_ret
    exact ⟨rfl, rfl⟩
set_option maxHeartbeats 4000000 in
set_option maxRecDepth 100000 in
theorem ins_twice (f : WhF) (room : Nat) (s : WhS) (w : World) (id a : Int) (i : Int) (h : WhM w f room s) (hi : I64N id) (hm : s.M id = some i) (h0 : 0 ≤ a) (h1 : a ≤ 4503599627370496) :
    Calls Tryz.prog 45 #[.pointer (some ⟨f.pw, 0, none⟩), .int .i64 id, .int .i64 a] w fun e w' => e = .returned (.int .i64 4) ∧ w = w' := by
  obtain ⟨xx, xy⟩ := box_rules (h).box
  have xz := (box_rules (h).tm).2
  have lx := box_lt (h).box
  have hl := h.mp.look_ok mt_ids hi
  rw [hm] at hl
  clear h hm
  dsimp only [Option.getD_some, Option.isSome_some] at hl
  go_enter Tryz.func45, Tryz.ntmps45
  go_wp2
  go_ret
  exact ⟨rfl, rfl⟩
set_option maxHeartbeats 4000000 in
set_option maxRecDepth 100000 in
theorem ins_full (f : WhF) (room : Nat) (s : WhS) (w : World) (id a : Int) (h : WhM w f room s) (hi : I64N id) (hm : s.M id = none) (h0 : 0 ≤ a) (h1 : a ≤ 4503599627370496) (hp : s.pile = []) :
    Calls Tryz.prog 45 #[.pointer (some ⟨f.pw, 0, none⟩), .int .i64 id, .int .i64 a] w fun e w' => e = .returned (.int .i64 5) ∧ ∃ j, w.drewN j = w' := by
  have f1 := Lib.hid (home_any f room s w a h h0 h1)
  have f2 := Lib.hid (fun j => take_none (homeF s.now a) f.pp f.bl f.be room 258 s.ls (w.drewN j) (by have := h.pool.drewN j; rwa [hp] at this) home_lt)
  obtain ⟨xx, xy⟩ := box_rules (h).box
  have xz := (box_rules (h).tm).2
  have lx := box_lt (h).box
  have hl := h.mp.look_ok mt_ids hi
  rw [hm] at hl
  clear h hm hp
  generalize homeF s.now a = k at *
  dsimp only [Option.getD_none, Option.isSome_none] at hl
  go_enter Tryz.func45, Tryz.ntmps45
  go_wp2_with (first
    | (go_at_call 68; with_reducible refine f1.out.mono ?_; rintro e w1 ⟨rfl, j, rfl⟩)
    | (go_at_call 69; with_reducible refine (f2.out _).mono ?_; rintro e w2 ⟨rfl, rfl⟩))
  go_ret
  exact ⟨rfl, _, rfl⟩
set_option maxHeartbeats 8000000 in
set_option maxRecDepth 100000 in
theorem ins_ok (f : WhF) (room : Nat) (s : WhS) (w : World) (id a : Int) (i : Nat) (r : List Nat) (h : WhM w f room s) (hf : FbL s) (hr : room ≤ 4096) (hi : I64N id) (hm : s.M id = none) (h0 : 0 ≤ a) (h1 : a ≤ 4503599627370496) (hp : s.pile = i :: r)
    (hir : i < room) (hsz : s.sz ≤ 4096) (htn : -1 ≤ s.turns ∧ s.turns ≤ 4611686018427387904) :
    Calls Tryz.prog 45 #[.pointer (some ⟨f.pw, 0, none⟩), .int .i64 id, .int .i64 a] w fun e w' => e = .returned (.int .i64 0) ∧ WhM w' f room (noteS (insS s id a i r) (homeF s.now a)) ∧ Tn f.l w w' := by
  have f1 := Lib.hid (home_any f room s w a h h0 h1)
  have f2 := Lib.hid (fun j => take_some (homeF s.now a) i r f.pp f.bl f.be room 258 s.ls (w.drewN j) (by have := h.pool.drewN j; rwa [hp] at this) home_lt hr)
  have f3 := Lib.hid (fun X (hX : WhM X f room (insS s id a i r)) => note_all f room (insS s id a i r) X (homeF s.now a) hX hf)
  have HO : Hid (insS s id a i r = { s with turns := s.turns + 1, ts := s.ts.set i ⟨id, a, s.turns + 1⟩, M := fun x => if x = id then some (i : Int) else s.M x, sz := s.sz + 1, pile := r, ls := upL s.ls (homeF s.now a) (s.ls (homeF s.now a) ++ [i]) }) := Lib.hid rfl
  have H := Lib.hid h
  obtain ⟨xx, xy⟩ := box_rules (h).box
  have xz := (box_rules (h).tm).2
  have lx := box_lt (h).box
  have hl := h.mp.look_ok mt_ids hi
  rw [hm] at hl
  have Hm := Lib.hid hm
  clear h hm hp hf
  generalize homeF s.now a = k at *
  generalize insS s id a i r = S' at *
  have hw1 : IntKind.i64.wrap (s.turns + 1) = s.turns + 1 := IntWalk.i64_in _ (by omega)
  have hw2 : s.turns + 1 = s.turns + 1 := rfl
  dsimp only [Option.getD_none, Option.isSome_none] at hl
  go_enter Tryz.func45, Tryz.ntmps45
  go_upto_region 8 with (first
    | (go_at_call 68; with_reducible refine f1.out.mono ?_; rintro e w1 ⟨rfl, j, rfl⟩)
    | (go_at_call 69; with_reducible refine (f2.out _).mono ?_; rintro e w2 ⟨rfl, hp2, ht2⟩; have HM2 := Lib.hid ((H.out.drewN _).pool' ht2 hp2); have HT2 := Lib.hid (((Tn.refl f.l w).drewN _).trans (tn_pool ht2)); clear hp2 ht2))
  clear f1 f2 xx xy xz lx
  obtain ⟨xx, xy⟩ := box_rules (HM2.out).box
  have xz := (box_rules (HM2.out).tm).2
  have lx := box_lt (HM2.out).box
  dsimp only at xx
  go_upto_region 11 with fail
  refine name_world fun V hV => ?_
  have HMV := Lib.hid (show WhM V f room _ by rw [hV]; exact HM2.out.setTurns (s.turns + 1))
  have HTV := Lib.hid (show Tn f.l w V by rw [hV]; exact HT2.out.setCell (by simp [WhF.l]) _)
  clear hV xx xy xz lx
  obtain ⟨xx, xy⟩ := box_rules (HMV.out).box
  have xz := (box_rules (HMV.out).tm).2
  have lx := box_lt (HMV.out).box
  dsimp only at xx
  obtain ⟨x, hx, x1, x2, x3⟩ := HMV.out.tmAt hir
  clear hx
  refine still_tailD 14 (by kernel_rfl) (by kernel_rfl) ?_
  simp only [List.take_succ_cons, List.take_zero, List.drop_succ_cons, List.drop_zero]
  repeat still_step
  refine wpStill_nil ?_
  go_upto_region 12 with fail
  refine name_world fun U hU => ?_
  have HMU := Lib.hid (show WhM U f room _ by rw [hU]; exact (HMV.out.setTm hir id a (s.turns + 1)).drew)
  have HTU := Lib.hid (show Tn f.l w U by rw [hU]; exact (((HTV.out.setCell (by simp [WhF.l]) _).setCell (by simp [WhF.l]) _).setCell (by simp [WhF.l]) _).drew)
  clear hU xx xy xz lx x1 x2 x3
  obtain ⟨xx, xy⟩ := box_rules (HMU.out).box
  have xz := (box_rules (HMU.out).tm).2
  have lx := box_lt (HMU.out).box
  dsimp only at xx
  obtain ⟨w3, hrun, hm3, hg3⟩ := HMU.out.mp.put mt_ids (by show s.sz < _; omega) hi (v := (i : Int)) (by unfold I64N; omega)
  have HM3 := Lib.hid (HMU.out.setMap hg3 hm3)
  have HT3 := Lib.hid (HTU.out.trans ((Tn.refl f.l _).grown hg3 (fun k e => by cases e; simp [WhF.l])))
  clear hm3 hg3
  have HM4 : Hid (WhM w3 f room S') := Lib.hid (by
    rw [HO.out]
    have h9 := HM3.out
    dsimp only at h9
    rw [Hm.out] at h9
    exact h9)
  go_wp2_with (go_at_call 70; with_reducible refine (f3.out _ HM4.out).mono ?_; rintro e w4 ⟨rfl, hm4, ht4⟩; have HM5 := Lib.hid hm4; have HT5 := Lib.hid (HT3.out.trans ht4); clear hm4 ht4)
  go_ret
  exact ⟨rfl, HM5.out, HT5.out⟩
end Go.Proofs.YtiblpnadninmbaaGreatDoor

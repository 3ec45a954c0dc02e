/- Package wheel: the walks of ahead and Next. Conditions: a wheel's memory, its words as its lists are. -/
import Derived.Test.YtiblpnadninmbaaGreatDoorWhFY
namespace Go.Proofs.YtiblpnadninmbaaGreatDoor
open Go.RowKit Go.Shelf
attribute [local go_sem] Oper.semAt_some

/-- The words are as the lists, and what is in a slot is ahead of the time. -/
structure AhOk (s : WhS) : Prop where
  n0 : 0 ≤ s.now
  n1 : s.now ≤ 4503599627370496
  fbl : FbL s
  fb : ∀ L, L < 4 → ∀ n, n < 64 → (s.fb L).testBit n = !decide (s.ls (64 * L + n) = [])
  ah : ∀ L, L < 4 → ∀ n, n < 64 → s.ls (64 * L + n) ≠ [] → slF s.now L < n
set_option maxHeartbeats 4000000 in
set_option maxRecDepth 100000 in
theorem ahead_slot (f : WhF) (room : Nat) (s : WhS) (w : World) (L n : Nat) (h : WhM w f room s) (hT : Tab w) (ho : AhOk s) (hL : L < 4) (hn : n < 64) (hne : s.ls (64 * L + n) ≠ []) (hmin : ∀ j, j < 64 * L + n → s.ls j = []) :
    Calls Tryz.prog 53 #[.pointer (some ⟨f.pw, 0, none⟩)] w fun e w' => e = .returned (.tuple #[.int .i64 ((64 * L + n : Nat) : Int), .int .i64 (begF s.now (64 * L + n)), .bool true]) ∧ ∃ j, w.drewN j = w' := by
  have n0 := ho.n0; have n1 := ho.n1
  have HO := Lib.hid ho
  have H := Lib.hid h
  have x0 : w.cell? ⟨f.pw, 0, none⟩ = some (.int .i64 s.now) := (box_rules h.box).1 0
  have x2 : w.cell? ⟨f.pw, 2, none⟩ = some (.pointer (some ⟨f.pp, 0, none⟩)) := (box_rules h.box).1 2
  have xf : Hid (∀ L, L < 4 → w.cell? ⟨f.pw, 5 + L, none⟩ = some (.int .u64 (s.fb L : Nat))) := Lib.hid (fun L hL => by
    obtain rfl | rfl | rfl | rfl : L = 0 ∨ L = 1 ∨ L = 2 ∨ L = 3 := by omega
    all_goals exact (box_rules h.box).1 _)
  have lx := box_lt h.box
  have HE : Hid (∀ j, j < 64 * L + n → s.ls j = []) := Lib.hid hmin
  have HNe := Lib.hid hne; have HTb : Hid (∀ q, Tab (w.drewN q)) := Lib.hid (fun _ => hT)
  clear h ho hne hmin hT
  go_enter Tryz.func53, Tryz.ntmps53
  go_upto_region 2 with fail
  go_loopw [11] (fun i wr => ∃ j q : Nat, j ≤ L ∧ i = .int .i64 j ∧ w.drewN q = wr) (fun i _ => L - (intOf i).toNat)
  case atStart => exact ⟨0, 0, by omega, rfl, rfl⟩
  case round =>
    obtain ⟨j, q, hj, rfl, rfl⟩ := hrel
    have hj4 : j < 4 := by omega
    by_cases hlt : j < L
    · have xj := xf.out j hj4
      have g1 := Lib.hid (fun X => slot_any s.now j hj4 n0 n1 X)
      have g2 := Lib.hid (fun X => after_none (s.fb j) (slF s.now j) X (HO.out.fbl j hj4) (slF_lt _ _) (fun i _ hi => by rw [HO.out.fb j hj4 i hi, decide_eq_true (HE.out (64 * j + i) (by omega))]; rfl))
      have l1 : (j : Int) < 4 := by omega
      generalize slF s.now j = sl at *
      go_upto_region 4 with fail
      go_big_quiet (first | (go_at_call 78; (with_reducible exact (g1.out _).mono fun _ _ ⟨a, b⟩ => ⟨a, _, b.symm⟩)) | (go_at_call 77; (with_reducible exact (g2.out _).mono fun _ _ ⟨a, b⟩ => ⟨a, _, b.symm⟩)))
      go_wp2
      refine ⟨⟨j + 1, _, by omega, by go_num, rfl⟩, ?_⟩
      simp [intOf]; omega
    · obtain rfl : j = L := by omega
      have xj := xf.out j hj4
      have g1 := Lib.hid (fun X => slot_any s.now j hj4 n0 n1 X)
      have g2 := Lib.hid (fun X (hX : Tab X) => after_some (s.fb j) (slF s.now j) n X hX (HO.out.fbl j hj4) (HO.out.ah j hj4 n hn HNe.out) hn (by rw [HO.out.fb j hj4 n hn, decide_eq_false HNe.out]; rfl) (fun i _ hi => by rw [HO.out.fb j hj4 i (by omega), decide_eq_true (HE.out (64 * j + i) (by omega))]; rfl))
      have g3 := Lib.hid (fun X => start_any s.now j n hj4 hn n0 n1 X)
      have l1 : (j : Int) < 4 := by omega
      have e1 : IntKind.i64.wrap ((j : Int) * 64) = (j : Int) * 64 := IntWalk.i64_in _ (by omega)
      have e2 : IntKind.i64.wrap ((j : Int) * 64 + (n : Int)) = (j : Int) * 64 + (n : Int) := IntWalk.i64_in _ (by omega)
      have HSum := Lib.hid (show (j : Int) * 64 + (n : Int) = ((64 * j + n : Nat) : Int) by omega)
      generalize slF s.now j = sl at *
      obtain ⟨bg, hbg⟩ : ∃ bg, begF s.now (64 * j + n) = bg := ⟨_, rfl⟩
      rw [hbg] at g3
      have HBg := Lib.hid hbg
      clear hbg
      go_upto_region 4 with fail
      go_big_quiet (first | (go_at_call 78; (with_reducible exact (g1.out _).mono fun _ _ ⟨a, b⟩ => ⟨a, _, b.symm⟩)) | (go_at_call 77; (with_reducible exact (g2.out _ (HTb.out _)).mono fun _ _ ⟨a, b⟩ => ⟨a, _, b.symm⟩)))
      go_wp2_with (go_at_call 79; with_reducible refine (g3.out _).mono ?_; rintro e w3 ⟨rfl, q3, rfl⟩)
      refine bodyPost_ret (v := .tuple #[.int .i64 ((j : Int) * 64 + (n : Int)), .int .i64 bg, .bool true]) (by simp [results, Tryz.f53, go_sem]) rfl ?_
      exact ⟨by rw [HSum.out, HBg.out], _, rfl⟩
theorem S_callW {W w w' : World} (h : Hid (Below W.heap.size W w)) (hb : Below w.heap.size w w') : Hid (Below W.heap.size W w') := h.out.trans (hb.mono h.out.size)
theorem S_drewW {W w : World} (h : Hid (Below W.heap.size W w)) : Hid (Below W.heap.size W w.drew) := h.out.drew
set_option maxHeartbeats 4000000 in
set_option maxRecDepth 100000 in
theorem ahead_none (f : WhF) (room : Nat) (s : WhS) (w : World) (h : WhM w f room s) (ho : AhOk s) (hmin : ∀ j, j < 257 → s.ls j = []) :
    Calls Tryz.prog 53 #[.pointer (some ⟨f.pw, 0, none⟩)] w fun e w' => e = .returned (.tuple #[.int .i64 0, .int .i64 0, .bool false]) ∧ ∃ j, w.drewN j = w' := by
  have n0 := ho.n0; have n1 := ho.n1
  have HO := Lib.hid ho
  have H := Lib.hid h
  have x0 : w.cell? ⟨f.pw, 0, none⟩ = some (.int .i64 s.now) := (box_rules h.box).1 0
  have x2 : w.cell? ⟨f.pw, 2, none⟩ = some (.pointer (some ⟨f.pp, 0, none⟩)) := (box_rules h.box).1 2
  have xf : Hid (∀ L, L < 4 → w.cell? ⟨f.pw, 5 + L, none⟩ = some (.int .u64 (s.fb L : Nat))) := Lib.hid (fun L hL => by
    obtain rfl | rfl | rfl | rfl : L = 0 ∨ L = 1 ∨ L = 2 ∨ L = 3 := by omega
    all_goals exact (box_rules h.box).1 _)
  have lx := box_lt h.box
  have HE : Hid (∀ j, j < 257 → s.ls j = []) := Lib.hid hmin
  have f1 : Hid (∀ q, Calls Tryz.prog 80 #[.pointer (some ⟨f.pp, 0, none⟩), .int .i64 256] (w.drewN q) fun e w' => e = .returned (fstV (s.ls 256)) ∧ w.drewN q = w') := Lib.hid (fun q => first_any 256 f.pp f.bl f.be room 258 s.pile s.ls (w.drewN q) (h.pool.drewN q) (by omega))
  rw [hmin 256 (by omega)] at f1
  dsimp only [fstV] at f1
  clear h ho hmin
  go_enter Tryz.func53, Tryz.ntmps53
  go_upto_region 2 with fail
  go_loopw [11] (fun i wr => ∃ j q : Nat, j ≤ 4 ∧ i = .int .i64 j ∧ w.drewN q = wr) (fun i _ => 4 - (intOf i).toNat)
  case atStart => exact ⟨0, 0, by omega, rfl, rfl⟩
  case round =>
    obtain ⟨j, q, hj, rfl, rfl⟩ := hrel
    by_cases hj4 : j < 4
    · have xj := xf.out j hj4
      have g1 := Lib.hid (fun X => slot_any s.now j hj4 n0 n1 X)
      have g2 := Lib.hid (fun X => after_none (s.fb j) (slF s.now j) X (HO.out.fbl j hj4) (slF_lt _ _) (fun i _ hi => by rw [HO.out.fb j hj4 i hi, decide_eq_true (HE.out (64 * j + i) (by omega))]; rfl))
      have l1 : (j : Int) < 4 := by omega
      generalize slF s.now j = sl at *
      go_upto_region 4 with fail
      go_big_quiet (first | (go_at_call 78; (with_reducible exact (g1.out _).mono fun _ _ ⟨a, b⟩ => ⟨a, _, b.symm⟩)) | (go_at_call 77; (with_reducible exact (g2.out _).mono fun _ _ ⟨a, b⟩ => ⟨a, _, b.symm⟩)))
      go_wp2
      refine ⟨⟨j + 1, _, by omega, by go_num, rfl⟩, ?_⟩
      simp [intOf]; omega
    · obtain rfl : j = 4 := by omega
      go_wp2_with (go_at_call 80; with_reducible refine (f1.out _).mono ?_; rintro e w3 ⟨rfl, rfl⟩)
      refine bodyPost_ret (v := .tuple #[.int .i64 0, .int .i64 0, .bool false]) (by simp [results, Tryz.f53, go_sem]) rfl ?_
      exact ⟨rfl, q, rfl⟩
theorem minG_le (ts : List Tm) : ∀ (l : List Nat) (t : Int), minG ts t l ≤ t
  | [], _ => Int.le_refl _
  | _ :: l, _ => Int.le_trans (minG_le ts l _) (Int.min_le_left _ _)
theorem minG_ge {ts : List Tm} {z : Int} : ∀ {l : List Nat} {t : Int}, z ≤ t → (∀ i ∈ l, z ≤ (ts.getD i tm0).at') → z ≤ minG ts t l
  | [], _, h, _ => h
  | i :: l, _, h, hl => minG_ge (l := l) (Int.le_min.2 ⟨h, hl i (by simp)⟩) (fun x hx => hl x (by simp [hx]))
set_option maxHeartbeats 4000000 in
set_option maxRecDepth 100000 in
theorem ahead_far (f : WhF) (room : Nat) (s : WhS) (w : World) (h : WhM w f room s) (ho : AhOk s) (hmin : ∀ j, j < 256 → s.ls j = []) (hne : s.ls 256 ≠ []) (hpos : ∀ i ∈ s.ls 256, 0 ≤ (s.ts.getD i tm0).at') :
    Calls Tryz.prog 53 #[.pointer (some ⟨f.pw, 0, none⟩)] w fun e w' => e = .returned (.tuple #[.int .i64 256, .int .i64 (minL s.ts (s.ls 256) / 16777216 * 16777216), .bool true]) ∧ Below w.heap.size w w' := by
  have n0 := ho.n0; have n1 := ho.n1
  have HO := Lib.hid ho
  have H := Lib.hid h
  have x0 : w.cell? ⟨f.pw, 0, none⟩ = some (.int .i64 s.now) := (box_rules h.box).1 0
  have x2 : w.cell? ⟨f.pw, 2, none⟩ = some (.pointer (some ⟨f.pp, 0, none⟩)) := (box_rules h.box).1 2
  have xf : Hid (∀ L, L < 4 → w.cell? ⟨f.pw, 5 + L, none⟩ = some (.int .u64 (s.fb L : Nat))) := Lib.hid (fun L hL => by
    obtain rfl | rfl | rfl | rfl : L = 0 ∨ L = 1 ∨ L = 2 ∨ L = 3 := by omega
    all_goals exact (box_rules h.box).1 _)
  have lx := box_lt h.box
  have HE : Hid (∀ j, j < 256 → s.ls j = []) := Lib.hid hmin
  have f1 : Hid (∀ q, Calls Tryz.prog 80 #[.pointer (some ⟨f.pp, 0, none⟩), .int .i64 256] (w.drewN q) fun e w' => e = .returned (fstV (s.ls 256)) ∧ w.drewN q = w') := Lib.hid (fun q => first_any 256 f.pp f.bl f.be room 258 s.pile s.ls (w.drewN q) (h.pool.drewN q) (by omega))
  obtain ⟨hd, tl, hl⟩ := List.exists_cons_of_ne_nil hne
  have f2 : Hid (∀ X, Hid (Below w.heap.size w X) → Calls Tryz.prog 81 #[.pointer (some ⟨f.pw, 0, none⟩), .int .i64 256] X fun e w' => e = .returned (.int .i64 (minL s.ts (s.ls 256))) ∧ Below X.heap.size X w') := Lib.hid (fun X hX => least_any f room s X 256 (h.below hX.out) (by omega))
  have m0 : 0 ≤ minL s.ts (s.ls 256) := minG_ge (by omega) hpos
  have m1 : minL s.ts (s.ls 256) ≤ 4503599627370496 := minG_le _ _ _
  obtain ⟨mm, hmm⟩ : ∃ mm, minL s.ts (s.ls 256) = mm := ⟨_, rfl⟩
  rw [hmm] at f2 m0 m1
  have HMm := Lib.hid hmm
  rw [hl] at f1
  dsimp only [fstV] at f1
  clear h ho hmin hne hpos hmm hl
  have e1 : IntKind.i64.wrap (mm / 16777216 * 16777216) = mm / 16777216 * 16777216 := IntWalk.i64_in _ (by omega)
  go_enter Tryz.func53, Tryz.ntmps53
  go_upto_region 2 with fail
  go_loopw [11] (fun i wr => ∃ j q : Nat, j ≤ 4 ∧ i = .int .i64 j ∧ w.drewN q = wr) (fun i _ => 4 - (intOf i).toNat)
  case atStart => exact ⟨0, 0, by omega, rfl, rfl⟩
  case round =>
    obtain ⟨j, q, hj, rfl, rfl⟩ := hrel
    by_cases hj4 : j < 4
    · have xj := xf.out j hj4
      have g1 := Lib.hid (fun X => slot_any s.now j hj4 n0 n1 X)
      have g2 := Lib.hid (fun X => after_none (s.fb j) (slF s.now j) X (HO.out.fbl j hj4) (slF_lt _ _) (fun i _ hi => by rw [HO.out.fb j hj4 i hi, decide_eq_true (HE.out (64 * j + i) (by omega))]; rfl))
      have l1 : (j : Int) < 4 := by omega
      generalize slF s.now j = sl at *
      go_upto_region 4 with fail
      go_big_quiet (first | (go_at_call 78; (with_reducible exact (g1.out _).mono fun _ _ ⟨a, b⟩ => ⟨a, _, b.symm⟩)) | (go_at_call 77; (with_reducible exact (g2.out _).mono fun _ _ ⟨a, b⟩ => ⟨a, _, b.symm⟩)))
      go_wp2
      refine ⟨⟨j + 1, _, by omega, by go_num, rfl⟩, ?_⟩
      simp [intOf]; omega
    · obtain rfl : j = 4 := by omega
      go_upto_region 11 with (go_at_call 80; with_reducible refine (f1.out _).mono ?_; rintro e w3 ⟨rfl, rfl⟩)
      refine name_world fun V hV => ?_
      have hS0 : Hid (Below V.heap.size V V) := Lib.hid (Below.refl _ _)
      have HVB : Hid (Below w.heap.size w V) := Lib.hid (by rw [hV]; exact bdrewN (Below.refl _ _) _)
      clear hV
      go_region_held3 (fun w' => Hid (Below V.heap.size V w')) ((first | assumption | exact S_drewW (by assumption))) ((go_at_call 81; with_reducible refine (f2.out _ (S_callW HVB (Hid.out (by assumption)))).mono ?_; rintro e w' ⟨rfl, hb⟩; have hk := S_callW (W := V) (by assumption) hb; clear hb))
      all_goals
        go_wp2
        refine bodyPost_ret (v := .tuple #[.int .i64 256, .int .i64 (mm / 16777216 * 16777216), .bool true]) (by simp [results, Tryz.f53, go_sem]) rfl ?_
        exact ⟨by rw [HMm.out], HVB.out.trans (Below.mono (B := V.heap.size) (Hid.out (by assumption)) HVB.out.size)⟩
theorem min_lit (f : WhF) (room : Nat) (s : WhS) (w : World) (k : Nat) (h : WhM w f room s) (hk : k < 258) : Hid (∀ X, Hid (Below w.heap.size w X) → Calls Tryz.prog 81 #[.pointer (some ⟨f.pw, 0, none⟩), .int .i64 k] X fun e w' => e = .returned (.int .i64 (minL s.ts (s.ls k))) ∧ Below X.heap.size X w') :=
  Lib.hid (fun X hX => least_any f room s X k (h.below hX.out) hk)
/-- Next: some are due. -/
theorem next_due (f : WhF) (room : Nat) (s : WhS) (w : World) (h : WhM w f room s) (hne : s.ls 257 ≠ []) :
    Calls Tryz.prog 64 #[.pointer (some ⟨f.pw, 0, none⟩)] w fun e w' => e = .returned (.tuple #[.int .i64 (minL s.ts (s.ls 257)), .bool true]) ∧ Below w.heap.size w w' := by
  have f1 : Hid (Calls Tryz.prog 80 #[.pointer (some ⟨f.pp, 0, none⟩), .int .i64 257] w fun e w' => e = .returned (fstV (s.ls 257)) ∧ w = w') := Lib.hid (first_any 257 f.pp f.bl f.be room 258 s.pile s.ls w h.pool (by omega))
  have f2 : Hid (Calls Tryz.prog 81 #[.pointer (some ⟨f.pw, 0, none⟩), .int .i64 257] w fun e w' => e = .returned (.int .i64 (minL s.ts (s.ls 257))) ∧ Below w.heap.size w w') := Lib.hid (least_any f room s w 257 h (by omega))
  obtain ⟨hd, tl, hl⟩ := List.exists_cons_of_ne_nil hne
  obtain ⟨mm, hmm⟩ : ∃ mm, minL s.ts (s.ls 257) = mm := ⟨_, rfl⟩
  rw [hmm] at f2
  have HMm := Lib.hid hmm
  rw [hl] at f1
  dsimp only [fstV] at f1
  obtain ⟨xx, xy⟩ := box_rules (h).box
  have xz := (box_rules (h).tm).2
  have lx := box_lt (h).box
  clear hl hmm hne h
  go_enter Tryz.func64, Tryz.ntmps64
  go_wp2_with (first
    | (go_at_call 80; with_reducible refine f1.out.mono ?_; rintro e w3 ⟨rfl, rfl⟩)
    | (go_at_call 81; with_reducible refine f2.out.mono ?_; rintro e w4 ⟨rfl, hb4⟩; have HB4 := Lib.hid hb4; clear hb4))
  go_ret2
  exact ⟨by rw [HMm.out]; rfl, HB4.out⟩
/-- Next: none is due, but one is ahead. -/
theorem next_ahead (f : WhF) (room : Nat) (s : WhS) (w : World) (k : Nat) (z : Int) (h : WhM w f room s) (hd : s.ls 257 = []) (hk : k < 257)
    (ha : ∀ X, Below w.heap.size w X → Calls Tryz.prog 53 #[.pointer (some ⟨f.pw, 0, none⟩)] X fun e w' => e = .returned (.tuple #[.int .i64 k, .int .i64 z, .bool true]) ∧ Below X.heap.size X w') :
    Calls Tryz.prog 64 #[.pointer (some ⟨f.pw, 0, none⟩)] w fun e w' => e = .returned (.tuple #[.int .i64 (minL s.ts (s.ls k)), .bool true]) ∧ Below w.heap.size w w' := by
  have f1 : Hid (Calls Tryz.prog 80 #[.pointer (some ⟨f.pp, 0, none⟩), .int .i64 257] w fun e w' => e = .returned (fstV (s.ls 257)) ∧ w = w') := Lib.hid (first_any 257 f.pp f.bl f.be room 258 s.pile s.ls w h.pool (by omega))
  rw [hd] at f1
  dsimp only [fstV] at f1
  have f3 := Lib.hid (ha w (Below.refl _ _))
  have f2 := min_lit f room s w k h (by omega)
  obtain ⟨mm, hmm⟩ : ∃ mm, minL s.ts (s.ls k) = mm := ⟨_, rfl⟩
  rw [hmm] at f2
  have HMm := Lib.hid hmm
  obtain ⟨xx, xy⟩ := box_rules (h).box
  have xz := (box_rules (h).tm).2
  have lx := box_lt (h).box
  clear hmm h ha hd
  go_enter Tryz.func64, Tryz.ntmps64
  go_wp2_with (first
    | (go_at_call 80; with_reducible refine f1.out.mono ?_; rintro e w3 ⟨rfl, rfl⟩)
    | (go_at_call 53; with_reducible refine f3.out.mono ?_; rintro e w3 ⟨rfl, hb3⟩; have HB3 := Lib.hid hb3; clear hb3)
    | (go_at_call 81; with_reducible refine (f2.out _ HB3).mono ?_; rintro e w4 ⟨rfl, hb4⟩; have HB4 := S_callW HB3 hb4; clear hb4))
  go_ret2
  exact ⟨by rw [HMm.out]; rfl, HB4.out⟩
theorem next_none (f : WhF) (room : Nat) (s : WhS) (w : World) (h : WhM w f room s) (ho : AhOk s) (hmin : ∀ j, j < 258 → s.ls j = []) :
    Calls Tryz.prog 64 #[.pointer (some ⟨f.pw, 0, none⟩)] w fun e w' => e = .returned (.tuple #[.int .i64 0, .bool false]) ∧ ∃ j, w.drewN j = w' := by
  have f1 : Hid (Calls Tryz.prog 80 #[.pointer (some ⟨f.pp, 0, none⟩), .int .i64 257] w fun e w' => e = .returned (fstV (s.ls 257)) ∧ w = w') := Lib.hid (first_any 257 f.pp f.bl f.be room 258 s.pile s.ls w h.pool (by omega))
  rw [hmin 257 (by omega)] at f1
  dsimp only [fstV] at f1
  have f3 := Lib.hid (ahead_none f room s w h ho (fun j hj => hmin j (by omega)))
  obtain ⟨xx, xy⟩ := box_rules (h).box
  have xz := (box_rules (h).tm).2
  have lx := box_lt (h).box
  clear h ho hmin
  go_enter Tryz.func64, Tryz.ntmps64
  go_wp2_with (first
    | (go_at_call 80; with_reducible refine f1.out.mono ?_; rintro e w3 ⟨rfl, rfl⟩)
    | (go_at_call 53; with_reducible refine f3.out.mono ?_; rintro e w3 ⟨rfl, j3, rfl⟩))
  go_ret2
  exact ⟨rfl, _, rfl⟩
end Go.Proofs.YtiblpnadninmbaaGreatDoor

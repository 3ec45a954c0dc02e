/- Package wheel: the walks of least, ahead and Next. Conditions: a wheel's memory. -/
import Derived.Test.YtiblpnadninmbaaGreatDoorWhEY
import Derived.Test.YtiblpnadninmbaaGreatDoorRound
import Derived.Sort.CutIn
namespace Go.Proofs.YtiblpnadninmbaaGreatDoor
open Go.RowKit Go.Shelf
attribute [local go_sem] Oper.semAt_some

def minG (ts : List Tm) (t : Int) (l : List Nat) : Int := l.foldl (fun t i => min t (ts.getD i tm0).at') t
def minL (ts : List Tm) (l : List Nat) : Int := minG ts 4503599627370496 l
theorem minG_snoc (ts : List Tm) (t : Int) (l : List Nat) (i : Nat) : minG ts t (l ++ [i]) = min (minG ts t l) (ts.getD i tm0).at' := by unfold minG; rw [List.foldl_append]; rfl
/-- What the loop of least holds. -/
structure LeI {L : List Nat} (w0 : World) (pw : Nat) (ts : List Tm) (s : Nat) (pre : List (El L)) (W : World) : Prop where
  ptr : W.heap[s]? = some (.cells #[.pointer (some ⟨pw, 0, none⟩)] 80 (0, 0))
  min : W.heap[s + 1]? = some (.cells #[.int .i64 (minL ts (pv pre))] 2 (0, 0))
  low : Below w0.heap.size w0 W
theorem leI_own {L : List Nat} {w0 : World} {pw : Nat} {ts : List Tm} {s B : Nat} (hB : s + 1 < B) (h0 : w0.heap.size ≤ s) : OwnFrom B (LeI (L := L) w0 pw ts s) := fun pre W W' row h hg hr =>
  ⟨ownFrom_boxP (β := Unit) (by omega) () W W' row h.ptr hg hr, ownFrom_boxP (β := Unit) (by omega) () W W' row h.min hg hr, ownFrom_belowP (β := Unit) (by omega) (Nat.le_refl _) () W W' row h.low hg hr⟩
set_option maxHeartbeats 4000000 in
set_option maxRecDepth 100000 in
theorem least_any (f : WhF) (room : Nat) (s : WhS) (w : World) (k : Nat) (h : WhM w f room s) (hk : k < 258) :
    Calls Tryz.prog 81 #[.pointer (some ⟨f.pw, 0, none⟩), .int .i64 k] w fun e w' => e = .returned (.int .i64 (minL s.ts (s.ls k))) ∧ Below w.heap.size w w' := by
  have f1 := Lib.hid (fun w => peach_any k f.pp w)
  have H := Lib.hid h
  obtain ⟨xx0, xy0⟩ := box_rules h.box
  have lx := box_lt h.box
  clear h
  refine calls_marks Tryz.func81 rfl ?_
  simp only [Tryz.ntmps81, List.size_toArray, List.length_cons, List.length_nil, Nat.reduceAdd, Nat.reduceSub, Array.replicate_succ, Array.replicate_zero, List.push_toArray, List.append_toArray, List.nil_append, List.cons_append]
  go_wp2_with (go_at_call 90; refine (f1.out _).mono ?_; rintro e w' ⟨rfl, rfl⟩)
  refine name_world fun W6 hW6 => ?_
  have hB6 : Below w.heap.size w W6 := by rw [hW6]; exact ((((Below.refl _ _).alloc (Nat.le_refl _) _).alloc (by simp) _).alloc (by simp; omega) _).alloc (by simp; omega) _
  have x0 : W6.heap[w.heap.size]? = some (.cells #[.pointer (some ⟨f.pw, 0, none⟩)] 80 (0, 0)) := by rw [hW6]; exact box_alloc (box_alloc (box_alloc (heap_alloc_new _ _) _) _) _
  have x1 : W6.heap[w.heap.size + 1]? = some (.cells #[.int .i64 4503599627370496] 2 (0, 0)) := by rw [hW6]; exact box_alloc (box_alloc (heap_new_at _ (by simp)) _) _
  have x2 : W6.heap[w.heap.size + 2]? = some (.cells #[.pointer (some ⟨f.pp, 0, none⟩)] 104 (0, 0)) := by rw [hW6]; exact box_alloc (heap_new_at _ (by simp)) _
  have x3 : W6.heap[w.heap.size + 3]? = some (.cells #[.int .i64 k] 3 (0, 0)) := by rw [hW6]; exact heap_new_at _ (by simp)
  clear hW6 f1 xx0 xy0
  have hit := peach_iter k f.pp f.bl f.be room 258 s.pile s.ls (w.heap.size + 2) (w.heap.size + 3) (w.heap.size + 4) [w.heap.size + 1] w W6 hB6 (by omega) (by simp) (by omega) (by simp) x2 x3 H.out.pool hk
  have hI0 : LeI (L := s.ls k) w f.pw s.ts w.heap.size [] W6 := ⟨x0, x1, hB6⟩
  have hs6 : w.heap.size + 4 ≤ W6.heap.size := box_lt x3
  have HIn : Hid (∀ i ∈ s.ls k, i < room) := Lib.hid (fun i hi => by
    obtain ⟨p, _, hp⟩ := H.out.pool
    exact hp.in_lt hk hi)
  clear x0 x1 x2 x3
  refine (wpIn_wide (n := 9)).1 (wpIn_rangeFunc_ownH (F := Fence.wide) (n := 9) rfl (by omega) rfl trivial (enters_of Tryz.func99 (by kernel_rfl) rfl) hit (fun h k => h.trans k) (KeepsLow.put (by omega)) (Below.refl _ _) (fun _ => rfl)
    (LeI w f.pw s.ts w.heap.size) LsX (leI_own (by omega) (Nat.le_refl _)) (fun _ _ _ _ _ h _ _ => h.elim) hI0
    (fun x a' W => a' = { tmps := #[.pointer (some ⟨f.pw, 0, none⟩), .int .i64 k, .pointer (some ⟨w.heap.size, 0, none⟩), undef, .int .i64 0, .pointer (some ⟨w.heap.size + 1, 0, none⟩), .int .i64 (x.1 : Nat), .pointer (some ⟨f.pw, 0, none⟩), .pointer (some ⟨f.pw, 0, none⟩), .pointer (some ⟨f.pw, 2, none⟩), .pointer (some ⟨f.pp, 0, none⟩), .int .i64 k,
      .func (.func 99) #[] #[.pointer (some ⟨w.heap.size + 1 + 1, 0, none⟩), .pointer (some ⟨w.heap.size + 1 + 1 + 1, 0, none⟩)], .int .i64 (x.1 : Nat), undef, undef, undef, undef, undef, undef, undef, undef, undef, undef, undef, undef], defers := [] })
    (fun x a' s W W' row hs hg hr => hs)
    ?assign ?body ?done ?stop)
  case assign =>
    rintro l' pre x W K hI hK
    gi_wp2
    exact hK _ _ (KeepsFrom.refl _ _) (KeepsLow.refl _) hI rfl
  case body =>
    rintro l' pre ⟨i, hi⟩ a' W hl' _ hI rfl hlen
    clear hit hI0 hB6
    have hir := HIn.out i hi
    have HI := Lib.hid hI
    have HW := Lib.hid (H.out.below hI.low)
    obtain ⟨px, py⟩ := box_rules hI.ptr
    obtain ⟨mx, my⟩ := box_rules hI.min
    have hlt := box_lt hI.min
    obtain ⟨x, hx, t1, t2, t3⟩ := HW.out.tmAt hir
    have HMin : Hid (minL s.ts (pv (pre ++ [⟨i, hi⟩])) = min (minL s.ts (pv pre)) x.at') := Lib.hid (by
      rw [← hx, pv, List.map_append]; exact minG_snoc _ _ _ _)
    have hmn := hI.min
    obtain ⟨m0, hm0⟩ : ∃ m0, minL s.ts (pv pre) = m0 := ⟨_, rfl⟩
    rw [hm0] at hmn mx HMin
    have HMn := Lib.hid hmn
    clear hI hx hm0 hmn
    obtain ⟨xx, xy⟩ := box_rules (HW.out).box
    have xz := (box_rules (HW.out).tm).2
    have lx := box_lt (HW.out).box
    dsimp only
    have hsz := hlt
    by_cases h9 : x.at' < m0
    · gi_upto_region 4 with fail
      refine round_still_tail 11 (by repeat (first | exact letsOut_ownG | refine letsOut_then ?_ | refine letsOut_block ?_)) (by kernel_rfl) (by kernel_rfl) (by kernel_rfl) ?_
      simp only [List.take_succ_cons, List.take_zero, List.drop_succ_cons, List.drop_zero]
      repeat still_step
      refine wpStill_nil ?_
      go_wp2_with fail
      gi_wp2
      refine ⟨(ko_drew (ko_set (KeepsOthers.refl W) _ _)).from _, ?_, ⟨?_, ?_, ?_⟩⟩
      · exact ((KeepsLow.refl W).set (p := ⟨w.heap.size + 1, 0, none⟩) (Nat.le_succ _) (.inl (by simp)) _).drewN 1
      · exact box_far HI.out.ptr (p := ⟨w.heap.size + 1, 0, none⟩) (by show _ ≠ w.heap.size + 1; omega) _
      · rw [HMin.out, show min m0 x.at' = x.at' from (by omega)]
        exact box_set (t := 2) (cs := #[.int .i64 m0]) (i := 0) HMn.out _
      · exact (HI.out.low.setCell (p := ⟨w.heap.size + 1, 0, none⟩) (Nat.le_succ _) _).drew
    · gi_upto_region 4 with fail
      refine round_still_tail 11 (by repeat (first | exact letsOut_ownG | refine letsOut_then ?_ | refine letsOut_block ?_)) (by kernel_rfl) (by kernel_rfl) (by kernel_rfl) ?_
      simp only [List.take_succ_cons, List.take_zero, List.drop_succ_cons, List.drop_zero]
      repeat still_step
      refine wpStill_nil ?_
      go_wp2_with fail
      gi_wp2
      refine ⟨(ko_drew (ko_set (KeepsOthers.refl W) _ _)).from _, ?_, ⟨?_, ?_, ?_⟩⟩
      · exact ((KeepsLow.refl W).set (p := ⟨w.heap.size + 1, 0, none⟩) (Nat.le_succ _) (.inl (by simp)) _).drewN 1
      · exact box_far HI.out.ptr (p := ⟨w.heap.size + 1, 0, none⟩) (by show _ ≠ w.heap.size + 1; omega) _
      · rw [HMin.out, show min m0 x.at' = m0 from (by omega)]
        exact box_set (t := 2) (cs := #[.int .i64 m0]) (i := 0) HMn.out _
      · exact (HI.out.low.setCell (p := ⟨w.heap.size + 1, 0, none⟩) (Nat.le_succ _) _).drew
  case done =>
    intro D' xs W hD hS hI hK
    obtain ⟨mx, my⟩ := box_rules hI.min
    have HLow := Lib.hid hI.low; have HK := Lib.hid hK
    rw [hS] at mx
    clear hit hI0 hB6 hI hK hS
    obtain ⟨m0, hm0⟩ : ∃ m0, minL s.ts (s.ls k) = m0 := ⟨_, rfl⟩
    rw [hm0] at mx
    have HM0 := Lib.hid hm0
    clear hm0
    dsimp only
    go_wp2
    refine post_mark (v := .int .i64 m0) HK.out (by simp [results, Tryz.f81, go_sem]) ?_
    exact ⟨by rw [HM0.out], HLow.out.trans ((Below.refl _ _).grown (grownBy_putObj' _ D' _) HLow.out.size (fun k e => by cases e; omega))⟩
  case stop =>
    intro D' c' pre W hD hS hX hK
    exact hX.elim
end Go.Proofs.YtiblpnadninmbaaGreatDoor

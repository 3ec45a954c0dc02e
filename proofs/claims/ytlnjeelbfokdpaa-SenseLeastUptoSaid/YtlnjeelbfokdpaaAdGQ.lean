/- Package admit: Accept, Slack; the answers that vergelaw29.lives asks for. Conditions: lists that read. -/
import Derived.Test.YtlnjeelbfokdpaaAdEQ
namespace Go.Proofs.Ytlnjeelbfokdpaa
open Go.RowKit Go.Shelf

theorem accept_any (mn mx sw : Int) (ts : List Tk) (ls : List Ln) (hs : List Th) (A : Option Addr) (ca : Nat) (B : Option Addr) (cb : Nat) (D : Option Addr) (cd : Nat) (w : World)
    (hlt0 : ts.length ≤ 1048576) (hll : ls.length ≤ 1048576) (hlh : hs.length ≤ 1048576)
    (ht : Rd w A (ts.flatMap tkc)) (hl : Rd w B (ls.flatMap lnc)) (hh : Rd w D (hs.flatMap thc)) (hmx : I64 mx) (ht64 : ∀ p ∈ ts.map (·.prio) ++ hs.map (·.prio), I64 p) :
    Calls Try.prog 10 #[cfv mn mx sw A ts.length ca B ls.length cb D hs.length cd] w fun e w' =>
      e = .returned (.bool ((bndR (Cf.why ⟨mn, mx, sw, ts, ls, hs⟩) (bdF mn sw ts ls hs) ts.length).2.2 == 0)) ∧ Below w.heap.size w w' := by
  have f1 := Lib.hid (fun w ht hl hh => abounds_any mn mx sw ts ls hs A ca B cb D cd w hlt0 hll hlh ht hl hh hmx ht64)
  have Ht := Lib.hid ht; have Hl := Lib.hid hl; have Hh := Lib.hid hh
  clear ht hl hh hmx ht64
  unfold cfv RetB at *
  generalize bndR (Cf.why ⟨mn, mx, sw, ts, ls, hs⟩) (bdF mn sw ts ls hs) ts.length = R at *
  obtain ⟨L, at1, y⟩ := R
  dsimp only at *
  go_enter Try.func10, Try.ntmps10
  go_wp2_with fail
  refine (f1.out _ (Ht.out.alloc _) (Hl.out.alloc _) (Hh.out.alloc _)).mono ?_
  rintro e w2 ⟨A1, c1, rfl, _, hb⟩
  have HB := Lib.hid (((Below.refl w.heap.size w).alloc (Nat.le_refl _) _).trans (hb.mono (by simp)))
  clear hb f1
  go_wp2
  go_ret
  exact ⟨rfl, HB.out⟩
theorem slack_one (mn mx sw : Int) (ts : List Tk) (ls : List Ln) (hs : List Th) (A : Option Addr) (ca : Nat) (B : Option Addr) (cb : Nat) (D : Option Addr) (cd : Nat) (w : World)
    (hlt0 : ts.length ≤ 1048576) (hll : ls.length ≤ 1048576) (hlh : hs.length ≤ 1048576) (hwhy : Cf.why ⟨mn, mx, sw, ts, ls, hs⟩ = 0) (k : Nat) (hk : k < ts.length)
    (ht : Rd w A (ts.flatMap tkc)) (hl : Rd w B (ls.flatMap lnc)) (hh : Rd w D (hs.flatMap thc)) (hmx : I64 mx) (ht64 : ∀ p ∈ ts.map (·.prio) ++ hs.map (·.prio), I64 p) :
    Calls Try.prog 11 #[cfv mn mx sw A ts.length ca B ls.length cb D hs.length cd, .int .i64 (k : Int)] w
      (RetN (if (bdF mn sw ts ls hs k).2 = 0 then wrap64 ((ts.getD k tk0).deadline - (bdF mn sw ts ls hs k).1) else 0) (bdF mn sw ts ls hs k).2 w) := by
  have f1 := Lib.hid (fun w ht hl hh => bd_one mn mx sw ts ls hs A ca B cb D cd w hlt0 hll hlh hwhy k hk ht hl hh hmx ht64)
  have Ht := Lib.hid ht; have Hl := Lib.hid hl; have Hh := Lib.hid hh
  clear ht hl hh hmx ht64 hwhy
  unfold cfv RetN at *
  generalize bdF mn sw ts ls hs k = R at *
  obtain ⟨b, y⟩ := R
  dsimp only at *
  generalize hN : (if y = 0 then wrap64 ((ts.getD k tk0).deadline - b) else 0) = N at *
  have HN := Lib.hid hN
  clear hN
  go_enter Try.func11, Try.ntmps11
  go_wp2_with fail
  refine (f1.out _ (Ht.out.alloc _) (Hl.out.alloc _) (Hh.out.alloc _)).mono ?_
  rintro e w2 ⟨rfl, hb⟩
  have HX := Lib.hid (box_keep (heap_alloc_new w (.cells #[.int .i64 mn, .int .i64 mx, .int .i64 sw, .slice A ts.length ca, .slice B ls.length cb, .slice D hs.length cd] 29)) hb)
  have HB := Lib.hid (((Below.refl w.heap.size w).alloc (Nat.le_refl _) _).trans (hb.mono (by simp)))
  clear hb f1
  obtain ⟨hx, hy⟩ := box_rules HX.out
  by_cases hy0 : y = 0
  · rw [if_pos hy0] at HN
    subst hy0
    have hy1 : ((0 : Int) != 0) = false := by decide
    obtain ⟨a, x, rfl, hx2, ⟨-, -, -, -⟩, p4, -⟩ := (Ht.out.below HB.out).tkAt hk
    have HX2 := Lib.hid hx2
    clear hx2
    go_wp2
    refine bodyPost_ret (v := .tuple #[.int .i64 (wrap64 (x.deadline - b)), .int .i64 0]) (by simp [results, Try.f11, go_sem]) rfl ?_
    exact ⟨by rw [← HN.out, HX2.out], HB.out⟩
  · rw [if_neg hy0] at HN
    have hy1 : (y != 0) = true := by simpa using hy0
    go_wp2
    refine bodyPost_ret (v := .tuple #[.int .i64 0, .int .i64 y]) (by simp [results, Try.f11, go_sem]) rfl ?_
    exact ⟨by rw [← HN.out], HB.out⟩
theorem fam_i64 (m : Nat) (hm : m ≤ 8) : ∀ p ∈ (famTs m).map (·.prio) ++ famHs.map (·.prio), I64 p := fun p hp => by
  rcases List.mem_append.1 hp with h | h
  · obtain ⟨t, ht, rfl⟩ := List.mem_map.1 h
    obtain ⟨k, hk, rfl⟩ := List.mem_map.1 (show t ∈ (List.range m).map famTk from ht)
    have := List.mem_range.1 hk
    unfold famTk I64
    dsimp only
    omega
  · simp [famHs] at h
    unfold I64
    omega
theorem addr_z (a : Addr) : a.add 0 = a := by
  unfold Addr.add
  split <;> simp_all
/-! what lives asks for -/
theorem fam2_S (w : World) : Calls Try.prog 8 #[.int .i64 2] w fun e w' => ∃ (A : Option Addr) (ca : Nat) (B : Option Addr) (cb : Nat) (D : Option Addr) (cd : Nat), e = .returned (.tuple #[cfv 4 1000 2 A 2 ca B 2 cb D 2 cd, .int .i64 0]) ∧
    Rd w' A ((famTs 2).flatMap tkc) ∧ Rd w' B (famLs.flatMap lnc) ∧ Rd w' D (famHs.flatMap thc) ∧ Below w.heap.size w w' := by
  have h := fam_any 2 w
  obtain ⟨e1, e2⟩ := famC_yes (n := 2) (by unfold famIn; omega)
  rw [e1, e2] at h
  exact h
theorem fam9_S (w : World) : Calls Try.prog 8 #[.int .i64 9] w fun e w' => ∃ (A : Option Addr) (ca : Nat) (B : Option Addr) (cb : Nat) (D : Option Addr) (cd : Nat), e = .returned (.tuple #[cfv 0 0 0 A 0 ca B 0 cb D 0 cd, .int .i64 1]) ∧ Below w.heap.size w w' := by
  have h := fam_any 9 w
  obtain ⟨e1, e2⟩ := famC_no (n := 9) (by unfold famIn; omega)
  rw [e1, e2] at h
  exact h.mono fun e w' ⟨A, ca, B, cb, D, cd, h1, _, _, _, h2⟩ => ⟨A, ca, B, cb, D, cd, h1, h2⟩
theorem why2_S : Cf.why ⟨4, 1000, 2, famTs 2, famLs, famHs⟩ = 0 := by kernel_rfl
theorem bnd2_S : bndR (Cf.why ⟨4, 1000, 2, famTs 2, famLs, famHs⟩) (bdF 4 2 (famTs 2) famLs famHs) (famTs 2).length = ([79, 117], 0, 0) := by kernel_rfl
theorem bd21_S : bdF 4 2 (famTs 2) famLs famHs 1 = (117, 0) := by kernel_rfl
theorem bnd0_S : bndR (Cf.why ⟨0, 0, 0, [], [], []⟩) (bdF 0 0 [] [] []) 0 = ([], 0, 2) := by kernel_rfl
section
variable {A : Option Addr} {ca : Nat} {B : Option Addr} {cb : Nat} {D : Option Addr} {cd : Nat} {w : World}
theorem i64_1000 : I64 1000 := by unfold I64; omega
theorem i64_0 : I64 0 := by unfold I64; omega
theorem abounds_S (ht : Rd w A ((famTs 2).flatMap tkc)) (hl : Rd w B (famLs.flatMap lnc)) (hh : Rd w D (famHs.flatMap thc)) : Calls Try.prog 12 #[cfv 4 1000 2 A 2 ca B 2 cb D 2 cd] w (RetB ([79, 117], 0, 0) w) := by
  have h := abounds_any 4 1000 2 (famTs 2) famLs famHs A ca B cb D cd w (by decide) (by decide) (by decide) ht hl hh i64_1000 (fam_i64 2 (by decide))
  rw [bnd2_S] at h
  exact h
theorem accept_S (ht : Rd w A ((famTs 2).flatMap tkc)) (hl : Rd w B (famLs.flatMap lnc)) (hh : Rd w D (famHs.flatMap thc)) : Calls Try.prog 10 #[cfv 4 1000 2 A 2 ca B 2 cb D 2 cd] w fun e w' => e = .returned (.bool true) ∧ Below w.heap.size w w' := by
  have h := accept_any 4 1000 2 (famTs 2) famLs famHs A ca B cb D cd w (by decide) (by decide) (by decide) ht hl hh i64_1000 (fam_i64 2 (by decide))
  rw [bnd2_S] at h
  exact h
theorem slack_S (ht : Rd w A ((famTs 2).flatMap tkc)) (hl : Rd w B (famLs.flatMap lnc)) (hh : Rd w D (famHs.flatMap thc)) : Calls Try.prog 11 #[cfv 4 1000 2 A 2 ca B 2 cb D 2 cd, .int .i64 1] w (RetN 1883 0 w) := by
  have h := slack_one 4 1000 2 (famTs 2) famLs famHs A ca B cb D cd w (by decide) (by decide) (by decide) why2_S 1 (by decide) ht hl hh i64_1000 (fam_i64 2 (by decide))
  have e : (if (bdF 4 2 (famTs 2) famLs famHs 1).2 = 0 then wrap64 (((famTs 2).getD 1 tk0).deadline - (bdF 4 2 (famTs 2) famLs famHs 1).1) else 0) = 1883 := by rw [bd21_S]; kernel_rfl
  rw [e, bd21_S] at h
  exact h
theorem abounds_0 : Calls Try.prog 12 #[cfv 0 0 0 none 0 0 none 0 0 none 0 0] w (RetB ([], 0, 2) w) := by
  have h := abounds_any 0 0 0 [] [] [] none 0 none 0 none 0 w (by decide) (by decide) (by decide) (Rd.nil _ _) (Rd.nil _ _) (Rd.nil _ _) i64_0 (by simp)
  have e : bndR (Cf.why ⟨0, 0, 0, [], [], []⟩) (bdF 0 0 [] [] []) ([] : List Tk).length = ([], 0, 2) := bnd0_S
  rw [e] at h
  exact h
theorem accept_0 : Calls Try.prog 10 #[cfv 0 0 0 none 0 0 none 0 0 none 0 0] w fun e w' => e = .returned (.bool false) ∧ Below w.heap.size w w' := by
  have h := accept_any 0 0 0 [] [] [] none 0 none 0 none 0 w (by decide) (by decide) (by decide) (Rd.nil _ _) (Rd.nil _ _) (Rd.nil _ _) i64_0 (by simp)
  have e : bndR (Cf.why ⟨0, 0, 0, [], [], []⟩) (bdF 0 0 [] [] []) ([] : List Tk).length = ([], 0, 2) := bnd0_S
  rw [e] at h
  exact h
end
set_option maxHeartbeats 4000000 in
set_option maxRecDepth 100000 in
theorem lives29 (w : World) : Calls Try.prog 7 #[] w fun e w' => e = .returned (.bool true) ∧ Below w.heap.size w w' := by
  have f1 := Lib.hid (fun w => fam2_S w)
  have f2 := Lib.hid (fun A ca B cb D cd w ht hl hh => abounds_S (A := A) (ca := ca) (B := B) (cb := cb) (D := D) (cd := cd) (w := w) ht hl hh)
  have f3 := Lib.hid (fun w => fam9_S w)
  have f4 := Lib.hid (fun w => abounds_0 (w := w))
  have f5 := Lib.hid (fun A ca B cb D cd w ht hl hh => slack_S (A := A) (ca := ca) (B := B) (cb := cb) (D := D) (cd := cd) (w := w) ht hl hh)
  have f6 := Lib.hid (fun A ca B cb D cd w ht hl hh => accept_S (A := A) (ca := ca) (B := B) (cb := cb) (D := D) (cd := cd) (w := w) ht hl hh)
  have f7 := Lib.hid (fun w => accept_0 (w := w))
  generalize (famTs 2).flatMap tkc = F1 at *
  generalize famLs.flatMap lnc = F2 at *
  generalize famHs.flatMap thc = F3 at *
  unfold cfv RetN RetB at *
  dsimp only [List.length_cons, List.length_nil] at f2 f4
  go_enter Try.func7, Try.ntmps7
  go_wp2_with fail
  refine (f1.out _).mono ?_
  rintro e w1 ⟨A, ca, B, cb, D, cd, rfl, h1, h2, h3, hb⟩
  have H1 := Lib.hid h1; have H2 := Lib.hid h2; have H3 := Lib.hid h3; have B0 := Lib.hid hb
  clear h1 h2 h3 hb f1
  go_upto_region 2 with fail
  refine name_world fun W hW => ?_
  have HC : Hid (W.heap[w1.heap.size]? = some (.cells #[.int .i64 4, .int .i64 1000, .int .i64 2, .slice A 2 ca, .slice B 2 cb, .slice D 2 cd] 29 (0, 0))) := Lib.hid (by rw [hW]; exact heap_alloc_new _ _)
  have HB : Hid (Below w.heap.size w W) := Lib.hid (by rw [hW]; exact B0.out.alloc B0.out.size _)
  have m1 := Lib.hid (fun w' (h : Hid (Below W.heap.size W w')) => (show Rd W A F1 by rw [hW]; exact H1.out.alloc _).below h.out)
  have m2 := Lib.hid (fun w' (h : Hid (Below W.heap.size W w')) => (show Rd W B F2 by rw [hW]; exact H2.out.alloc _).below h.out)
  have m3 := Lib.hid (fun w' (h : Hid (Below W.heap.size W w')) => (show Rd W D F3 by rw [hW]; exact H3.out.alloc _).below h.out)
  have hR := fun w' (h : Hid (Below W.heap.size W w')) => (box_rules (box_keep HC.out h.out)).1
  have hS0 := S_refl' W
  have q0 := hR _ hS0
  have lW := box_lt HC.out
  clear hW H1 H2 H3 B0
  generalize w1.heap.size = bc at *
  go_wp2_with fail
  refine (f2.out _ _ _ _ _ _ _ (m1.out _ hS0) (m2.out _ hS0) (m3.out _ hS0)).mono ?_
  rintro e w2 ⟨AL, cL, rfl, hL, hb⟩
  have hS2 := S_call' hS0 hb
  have HL := Lib.hid hL
  have q2 := hR _ hS2
  clear hb hL q0 f2
  go_wp2_with fail
  refine (f3.out _).mono ?_
  rintro e w3 ⟨A9, a9, B9, b9, D9, d9, rfl, hb⟩
  have hS3 := S_call' hS2 hb
  have HL3 := Lib.hid (HL.out.below hb)
  clear hb q2 f3 HL
  go_upto_region 4 with fail
  refine name_world fun W4 hW4 => ?_
  have hS4 : Hid (Below W.heap.size W W4) := Lib.hid (by rw [hW4]; exact hS3.out.alloc hS3.out.size _)
  have HL4 : Hid (Rd W4 AL ([79, 117].map (.int .i64))) := Lib.hid (by rw [hW4]; exact HL3.out.alloc _)
  have q4 := hR _ hS4
  clear hW4 HL3 hS3
  go_wp2_with fail
  refine (f4.out _).mono ?_
  rintro e w5 ⟨A0, c0, rfl, _, hb⟩
  have hS5 := S_call' hS4 hb
  have HL5 := Lib.hid (HL4.out.below hb)
  have q5 := hR _ hS5
  clear hb q4 f4 HL4
  go_wp2_with fail
  refine (f5.out _ _ _ _ _ _ _ (m1.out _ hS5) (m2.out _ hS5) (m3.out _ hS5)).mono ?_
  rintro e w6 ⟨rfl, hb⟩
  have hS6 := S_call' hS5 hb
  have HL6 := Lib.hid (HL5.out.below hb)
  have q6 := hR _ hS6
  clear hb q5 f5 HL5
  obtain ⟨a, rfl, g0⟩ := HL6.out.int (i := 0) (by decide)
  obtain ⟨a', e1, g1⟩ := HL6.out.int (i := 1) (by decide)
  cases e1
  rw [addr_z] at g0
  have g0' : w6.cell? a = some (.int .i64 79) := g0
  have g1' : w6.cell? ⟨a.block, a.off + 1, none⟩ = some (.int .i64 117) := g1
  clear g0 g1
  go_wp2_with fail
  refine (f6.out _ _ _ _ _ _ _ (m1.out _ hS6) (m2.out _ hS6) (m3.out _ hS6)).mono ?_
  rintro e w7 ⟨rfl, hb⟩
  have hS7 := S_call' hS6 hb
  clear hb q6 f6 g0' g1'
  go_wp2_with fail
  refine (f7.out _).mono ?_
  rintro e w8 ⟨rfl, hb⟩
  have hS8 := S_call' hS7 hb
  clear hb
  go_wp2
  go_ret
  exact ⟨rfl, HB.out.trans (hS8.out.mono HB.out.size)⟩
end Go.Proofs.Ytlnjeelbfokdpaa

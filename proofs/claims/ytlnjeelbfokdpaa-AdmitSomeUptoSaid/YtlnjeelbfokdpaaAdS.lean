/- vergelaw29: the walk of AdmitSome. No premise of its own. -/
import Derived.Test.YtlnjeelbfokdpaaAdGQ
namespace Go.Proofs.Ytlnjeelbfokdpaa
open Go.RowKit Go.Shelf

def famOk (m : Nat) : Bool := (Cf.why ⟨4, 1000, 2, famTs m, famLs, famHs⟩ == 0) && (List.range m).all fun k => ((bdF 4 2 (famTs m) famLs famHs k).2 == 0) && decide (0 ≤ wrap64 (((famTs m).getD k tk0).deadline - (bdF 4 2 (famTs m) famLs famHs k).1))
theorem famOk_all : ((List.range 8).all fun m => famOk (m + 1)) = true := by kernel_rfl
theorem fam_ok {m : Nat} (h1 : 1 ≤ m) (h8 : m ≤ 8) : Cf.why ⟨4, 1000, 2, famTs m, famLs, famHs⟩ = 0 ∧ ∀ k, k < m → (bdF 4 2 (famTs m) famLs famHs k).2 = 0 ∧ 0 ≤ wrap64 (((famTs m).getD k tk0).deadline - (bdF 4 2 (famTs m) famLs famHs k).1) := by
  have h := List.all_eq_true.1 famOk_all (m - 1) (List.mem_range.2 (by omega))
  rw [show m - 1 + 1 = m by omega] at h
  unfold famOk at h
  rw [Bool.and_eq_true] at h
  refine ⟨by simpa using h.1, fun k hk => ?_⟩
  have h2 := List.all_eq_true.1 h.2 k (List.mem_range.2 hk)
  rw [Bool.and_eq_true] at h2
  exact ⟨by simpa using h2.1, by simpa using h2.2⟩
section
variable {m : Nat} (h1 : 1 ≤ m) (h8 : m ≤ 8) {A : Option Addr} {ca : Nat} {B : Option Addr} {cb : Nat} {D : Option Addr} {cd : Nat} {w : World}
include h1 h8
theorem famM_any : Calls Try.prog 8 #[.int .i64 (m : Int)] w fun e w' => ∃ (A : Option Addr) (ca : Nat) (B : Option Addr) (cb : Nat) (D : Option Addr) (cd : Nat), e = .returned (.tuple #[cfv 4 1000 2 A m ca B 2 cb D 2 cd, .int .i64 0]) ∧
    Rd w' A ((famTs m).flatMap tkc) ∧ Rd w' B (famLs.flatMap lnc) ∧ Rd w' D (famHs.flatMap thc) ∧ Below w.heap.size w w' := by
  have h := fam_any (m : Int) w
  obtain ⟨e1, e2⟩ := famC_yes (n := (m : Int)) (by unfold famIn; omega)
  rw [e1, e2, Int.toNat_natCast] at h
  unfold RetF at h
  rw [famTs_len] at h
  exact h
theorem checkM_any (ht : Rd w A ((famTs m).flatMap tkc)) (hl : Rd w B (famLs.flatMap lnc)) (hh : Rd w D (famHs.flatMap thc)) : Calls Try.prog 9 #[cfv 4 1000 2 A m ca B 2 cb D 2 cd] w fun e w' => e = .returned (.int .i64 0) ∧ Below w.heap.size w w' := by
  have h := check_cfg 4 1000 2 (famTs m) famLs famHs A ca B cb D cd w (by rw [famTs_len]; omega) (by decide) (by decide) ht hl hh i64_1000 (fam_i64 m h8)
  rw [(fam_ok h1 h8).1, famTs_len] at h
  exact h
theorem acceptM_any (ht : Rd w A ((famTs m).flatMap tkc)) (hl : Rd w B (famLs.flatMap lnc)) (hh : Rd w D (famHs.flatMap thc)) : Calls Try.prog 10 #[cfv 4 1000 2 A m ca B 2 cb D 2 cd] w fun e w' => e = .returned (.bool true) ∧ Below w.heap.size w w' := by
  have h := accept_any 4 1000 2 (famTs m) famLs famHs A ca B cb D cd w (by rw [famTs_len]; omega) (by decide) (by decide) ht hl hh i64_1000 (fam_i64 m h8)
  obtain ⟨g1, g2⟩ := fam_ok h1 h8
  rw [g1, famTs_len] at h
  have e : bndR 0 (bdF 4 2 (famTs m) famLs famHs) m = (bdL (bdF 4 2 (famTs m) famLs famHs) m, 0, 0) := bd_done fun j hj => (g2 j hj).1
  rw [e] at h
  exact h
theorem slackM_any {k : Nat} (hk : k < m) (ht : Rd w A ((famTs m).flatMap tkc)) (hl : Rd w B (famLs.flatMap lnc)) (hh : Rd w D (famHs.flatMap thc)) : Calls Try.prog 11 #[cfv 4 1000 2 A m ca B 2 cb D 2 cd, .int .i64 (k : Int)] w fun e w' => ∃ s : Int, 0 ≤ s ∧ e = .returned (.tuple #[.int .i64 s, .int .i64 0]) ∧ Below w.heap.size w w' := by
  obtain ⟨g1, g2⟩ := fam_ok h1 h8
  have h := slack_one 4 1000 2 (famTs m) famLs famHs A ca B cb D cd w (by rw [famTs_len]; omega) (by decide) (by decide) g1 k (by rw [famTs_len]; exact hk) ht hl hh i64_1000 (fam_i64 m h8)
  rw [if_pos (g2 k hk).1, (g2 k hk).1, famTs_len] at h
  exact h.mono fun e w' ⟨a, b⟩ => ⟨_, (g2 k hk).2, a, b⟩
end
theorem famN_any {n : Int} (hn : ¬ famIn n) (w : World) : Calls Try.prog 8 #[.int .i64 n] w fun e w' => ∃ (A : Option Addr) (ca : Nat) (B : Option Addr) (cb : Nat) (D : Option Addr) (cd : Nat), e = .returned (.tuple #[cfv 0 0 0 A 0 ca B 0 cb D 0 cd, .int .i64 1]) ∧ Below w.heap.size w w' := by
  have h := fam_any n w
  obtain ⟨e1, e2⟩ := famC_no hn
  rw [e1, e2] at h
  exact h.mono fun e w' ⟨A, ca, B, cb, D, cd, h1, _, _, _, h2⟩ => ⟨A, ca, B, cb, D, cd, h1, h2⟩
set_option maxHeartbeats 4000000 in
set_option maxRecDepth 100000 in
theorem some29_any (n : Int) (w : World) : Calls Try.prog 3 #[.int .i64 n] w fun e w' => e = .returned (.bool true) ∧ Below w.heap.size w w' := by
  have f0 := Lib.hid (fun w => lives29 w)
  by_cases hin : famIn n
  · obtain ⟨h1, h8⟩ := hin
    obtain ⟨m, rfl⟩ := Int.eq_ofNat_of_zero_le (show 0 ≤ n by omega)
    have g1 : 1 ≤ m := by omega
    have g8 : m ≤ 8 := by omega
    have f1 := Lib.hid (fun w => famM_any g1 g8 (w := w))
    have f2 := Lib.hid (fun A ca B cb D cd w ht hl hh => checkM_any (A := A) (ca := ca) (B := B) (cb := cb) (D := D) (cd := cd) (w := w) g1 g8 ht hl hh)
    have f3 := Lib.hid (fun A ca B cb D cd w ht hl hh => acceptM_any (A := A) (ca := ca) (B := B) (cb := cb) (D := D) (cd := cd) (w := w) g1 g8 ht hl hh)
    have f4 := Lib.hid (fun k hk A ca B cb D cd w ht hl hh => slackM_any (A := A) (ca := ca) (B := B) (cb := cb) (D := D) (cd := cd) (w := w) g1 g8 (k := k) hk ht hl hh)
    generalize (famTs m).flatMap tkc = F1 at *
    generalize famLs.flatMap lnc = F2 at *
    generalize famHs.flatMap thc = F3 at *
    unfold cfv at *
    go_enter Try.func3, Try.ntmps3
    go_wp2_with fail
    refine (f0.out _).mono ?_
    rintro e w0 ⟨rfl, hb0⟩
    have B0 := Lib.hid hb0
    clear hb0
    go_wp2_with fail
    refine (f1.out _).mono ?_
    rintro e w1 ⟨A, ca, B, cb, D, cd, rfl, e1, e2, e3, hb⟩
    have H1 := Lib.hid e1; have H2 := Lib.hid e2; have H3 := Lib.hid e3
    have B1 := Lib.hid (B0.out.trans (hb.mono B0.out.size))
    clear e1 e2 e3 hb f1 B0
    go_upto_region 4 with fail
    refine name_world fun W hW => ?_
    have HC : Hid (W.heap[w1.heap.size]? = some (.cells #[.int .i64 4, .int .i64 1000, .int .i64 2, .slice A m ca, .slice B 2 cb, .slice D 2 cd] 29 (0, 0))) := Lib.hid (by rw [hW]; exact heap_alloc_new _ _)
    have HB : Hid (Below w.heap.size w W) := Lib.hid (by rw [hW]; exact B1.out.alloc B1.out.size _)
    have m1 := Lib.hid (fun w' (h : Hid (Below W.heap.size W w')) => (show Rd W A F1 by rw [hW]; exact H1.out.alloc _).below h.out)
    have m2 := Lib.hid (fun w' (h : Hid (Below W.heap.size W w')) => (show Rd W B F2 by rw [hW]; exact H2.out.alloc _).below h.out)
    have m3 := Lib.hid (fun w' (h : Hid (Below W.heap.size W w')) => (show Rd W D F3 by rw [hW]; exact H3.out.alloc _).below h.out)
    have hR := fun w' (h : Hid (Below W.heap.size W w')) => (box_rules (box_keep HC.out h.out)).1
    have hS0 := S_refl' W
    have q0 := hR _ hS0
    clear hW H1 H2 H3 B1
    generalize w1.heap.size = bc at *
    go_wp2_with fail
    refine (f2.out _ _ _ _ _ _ _ (m1.out _ hS0) (m2.out _ hS0) (m3.out _ hS0)).mono ?_
    rintro e w2 ⟨rfl, hb⟩
    have hS2 := S_call' hS0 hb
    have q2 := hR _ hS2
    clear hb q0 f2
    go_wp2_with fail
    refine (f3.out _ _ _ _ _ _ _ (m1.out _ hS2) (m2.out _ hS2) (m3.out _ hS2)).mono ?_
    rintro e w3 ⟨rfl, hb⟩
    have hS3 := S_call' hS2 hb
    have q3 := hR _ hS3
    clear hb q2 f3
    go_wp2
    go_loopw [51] (fun i wr => ∃ k : Nat, k ≤ m ∧ i = .int .i64 k ∧ Hid (Below W.heap.size W wr)) (fun i _ => m - (intOf i).toNat)
    case atStart => exact ⟨0, by omega, rfl, hS3⟩
    case round =>
      obtain ⟨k, hk, rfl, hSr⟩ := hrel
      by_cases hlt : k < m
      · have qr := hR _ hSr
        have f5 := Lib.hid (f4.out k hlt A ca B cb D cd wr (m1.out _ hSr) (m2.out _ hSr) (m3.out _ hSr))
        clear q3
        go_wp2_with fail
        refine f5.out.mono ?_
        rintro e w5 ⟨s, hs0, rfl, hb⟩
        have hS5 := S_call' hSr hb
        clear hb qr f5
        go_wp2
        refine ⟨⟨k + 1, by omega, by go_num, hS5⟩, ?_⟩
        simp [intOf]; omega
      · obtain rfl : k = m := by omega
        clear q3
        go_wp2
        go_ret
        exact ⟨rfl, HB.out.trans (hSr.out.mono HB.out.size)⟩
  · have f1 := Lib.hid (fun w => famN_any hin w)
    unfold cfv at *
    go_enter Try.func3, Try.ntmps3
    go_wp2_with fail
    refine (f0.out _).mono ?_
    rintro e w0 ⟨rfl, hb0⟩
    have B0 := Lib.hid hb0
    clear hb0
    go_wp2_with fail
    refine (f1.out _).mono ?_
    rintro e w1 ⟨A, ca, B, cb, D, cd, rfl, hb⟩
    have B1 := Lib.hid (B0.out.trans (hb.mono B0.out.size))
    clear hb f1 B0
    by_cases h1 : n < 1
    · go_wp2
      go_ret
      exact ⟨rfl, B1.out.alloc B1.out.size _⟩
    · have h8 : 8 < n := by unfold famIn at hin; omega
      go_wp2
      go_ret
      exact ⟨rfl, B1.out.alloc B1.out.size _⟩
end Go.Proofs.Ytlnjeelbfokdpaa

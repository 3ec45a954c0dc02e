/- Package vergelaw09: the walk of TimersDrift. Conditions: a list that reads, the de Bruijn table. -/
import Derived.Test.YtiblpnadninmbaaDoorTlR
namespace Go.Proofs.YtiblpnadninmbaaDoor
open Go.RowKit Go.Shelf
attribute [local go_sem] Oper.semAt_some
/-- A run of the one timer, without the rounds. -/
structure DrR (p s nx : Int) (M : List Fi) (L2 : List Du) (P2 : List Pe) : Prop where
  le : M.length ≤ 1024
  at' : ∀ i, i < M.length → M.getD i fi0 = ⟨7, nx + i * p, s - (nx + i * p)⟩ ∧ nx + i * p ≤ s
  st : DrI p (nx + M.length * p) L2 P2
  fin : M.length < 1024 → nx + M.length * p ≤ 4503599627370496 → s < nx + M.length * p
  pi : PI L2 P2
theorem DrR.lt {p s nx : Int} {M : List Fi} {L2 : List Du} {P2 : List Pe} (h : DrR p s nx M L2 P2) (hp : 1 ≤ p) (hb : ¬ (nx < s ∧ 900 < (s - nx) / p)) : M.length < 1024 := by
  by_cases hm : M.length < 1024
  · exact hm
  · exfalso
    have h1 := (h.at' 1023 (by omega)).2
    have h2 : (1023 : Int) ≤ (s - nx) / p := (Int.le_ediv_iff_mul_le (by omega)).2 (by
      have : ((1023 : Nat) : Int) * p = 1023 * p := rfl
      omega)
    have h3 : (1 : Int) * 1023 ≤ p * 1023 := Int.mul_le_mul_of_nonneg_right hp (by omega)
    exact hb ⟨by have : ((1023 : Nat) : Int) * p = 1023 * p := rfl
                 omega, by omega⟩
theorem DrR.ub {p s nx : Int} {M : List Fi} {L2 : List Du} {P2 : List Pe} (h : DrR p s nx M L2 P2) (hp : 1 ≤ p ∧ p ≤ 4503599627370496) (hs : s ≤ 4503599627370496) (hn : 0 ≤ nx) (hn1 : nx ≤ 9007199254740992) : 0 ≤ nx + M.length * p ∧ nx + M.length * p ≤ 9007199254740992 := by
  have h0 : 0 ≤ (M.length : Int) * p := Int.mul_nonneg (by omega) (by omega)
  refine ⟨by omega, ?_⟩
  rcases Nat.eq_zero_or_pos M.length with hz | hz
  · rw [hz]; simpa using hn1
  · have h1 := (h.at' (M.length - 1) (by omega)).2
    have h2 : (M.length : Int) * p = ((M.length - 1 : Nat) : Int) * p + p := by
      rw [show (M.length : Int) = ((M.length - 1 : Nat) : Int) + 1 by omega, Int.add_mul]; omega
    omega
theorem dr_one (g : TmF) (now : Int) (L : List Du) (P : List Pe) (tn : Nat) (s p nx : Int) (hg : 0 ∉ g.f.l) (ht : tn + 1024 ≤ 1152921504606846976) (hc : now ≤ s ∧ s ≤ 4503599627370496) (hp : 1 ≤ p) (h0 : 0 ≤ nx) (hi : PI L P) (h : DrI p nx L P) :
    ∃ M L2 P2, DrR p s nx M L2 P2 ∧ ∀ X, Tms X g 1 now L P tn → Tab X → Calls Tryd.prog 23 #[.pointer (some ⟨g.pt, 0, none⟩), .int .i64 s] X (RunOk g 1 M L2 P2 (tn + 1024) s X) := by
  obtain ⟨q1, q2, q3, q4⟩ := dr_run hp hc.2 1024 h0 h
  obtain ⟨r1, _, _⟩ := run_pi (room := 1) (now := s) 1024 hi
  exact ⟨_, _, _, ⟨q1, q2, q3, q4, r1⟩, run_one g 1 now L P tn s hg ht hc rfl⟩
theorem dr_bad (g : TmF) (now : Int) (L : List Du) (P : List Pe) (tn : Nat) (s : Int) (hg : 0 ∉ g.f.l) (ht : tn + 1024 ≤ 1152921504606846976) (hc : ¬ (now ≤ s ∧ s ≤ 4503599627370496)) :
    ∀ X, Tms X g 1 now L P tn → Tab X → Calls Tryd.prog 23 #[.pointer (some ⟨g.pt, 0, none⟩), .int .i64 s] X fun e w' => e = .returned (.tuple #[.slice none 0 0, .int .i64 1]) ∧ Tms w' g 1 now L P tn ∧ Tn g.l X w' := fun X hX hT => by
  have h8 := trun_any g 1 now L P tn X s hX hT hg ht
  unfold RetRun at h8
  simp only [if_neg hc] at h8
  exact h8
theorem dr_next (g : TmF) (now : Int) (L : List Du) (P : List Pe) (tn : Nat) (p nx : Int) (h : DrI p nx L P) :
    ∃ nv bv, ((nx ≤ 4503599627370496 ∧ nv = nx ∧ bv = true) ∨ (4503599627370496 < nx ∧ nv = 0 ∧ bv = false)) ∧ ∀ X, Tms X g 1 now L P tn → Tab X → Calls Tryd.prog 27 #[.pointer (some ⟨g.f.pw, 0, none⟩)] X fun e w' => e = .returned (.tuple #[.int .i64 nv, .bool bv]) ∧ Below X.heap.size X w' := by
  rcases h with ⟨h1, rfl, rfl⟩ | ⟨h1, rfl, rfl⟩
  · refine ⟨nx, true, .inl ⟨h1, rfl, rfl⟩, fun X hX hT => ?_⟩
    have h9 := whl_next g.f 1 now [⟨7, nx⟩] tn X hX.whl hT
    rw [if_neg (by simp)] at h9
    have hm : minD 4503599627370496 [⟨7, nx⟩] = nx := by
      rw [minD, minD]
      show min _ nx = nx
      omega
    rw [hm] at h9
    exact h9
  · refine ⟨0, false, .inr ⟨h1, rfl, rfl⟩, fun X hX hT => ?_⟩
    have h9 := whl_next g.f 1 now [] tn X hX.whl hT
    rw [if_pos rfl] at h9
    exact h9
theorem dr_start {room : Nat} {f p : Int} (hr : room = 1) (hc : everyC room [] 7 f p = 0) : (1 ≤ p ∧ p ≤ 4503599627370496) ∧ (0 ≤ f ∧ f ≤ 4503599627370496) ∧ DrI p f (everyL room [] 7 f p) (everyP room [] [] 7 f p) := by
  subst hr
  unfold everyC at hc
  split at hc
  · rename_i hp
    have hf : 0 ≤ f ∧ f ≤ 4503599627370496 := by
      unfold insC at hc
      split at hc
      · omega
      · rename_i h9; simpa using h9
    refine ⟨hp, hf, .inl ⟨hf.2, ?_, ?_⟩⟩
    · unfold everyL insL
      rw [if_pos hp, if_pos hc]
      rfl
    · unfold everyP everyC
      rw [if_pos hp, if_pos hc]
      rfl
  · omega
set_option maxHeartbeats 16000000 in
set_option maxRecDepth 100000 in
theorem timersDrift_any (now first p : Int) (ss : List Int) (S : Option Addr) (cs : Nat) (w : World) (hs : Rd w S (ss.map (.int .i64))) (hsr : ∀ x ∈ ss, I64N x) (hT : Tab w) :
    Calls Tryd.prog 4 #[.int .i64 now, .int .i64 first, .int .i64 p, .slice S ss.length cs] w fun e w' => e = .returned (.bool true) ∧ Below w.heap.size w w' := by
  have HS := Lib.hid hs; have HT := Lib.hid hT; have HSr := Lib.hid hsr
  have Hlt := Lib.hid hT.lt
  have f1 := Lib.hid (lives09_any w hT)
  by_cases hg : 0 ≤ now ∧ now ≤ 4503599627370496
  · obtain ⟨h0, h1⟩ := hg
    have f2 : Hid (∀ X, Calls Tryd.prog 12 #[.int .i64 now, .int .i64 1] X (RetTms 1 now X)) := Lib.hid (fun X => tnew_ok now 1 X h0 h1 (by omega) (by omega))
    unfold RetTms at f2
    clear hs hsr hT h0 h1
    go_enter Tryd.func4, Tryd.ntmps4
    go_upto_region 3 with (go_at_call 11; (with_reducible refine f1.out.mono ?_); rintro e w1 ⟨rfl, hb1⟩; have HB1 := Lib.hid hb1; clear hb1)
    go_upto_region 4 with (go_at_call 12; (with_reducible refine (f2.out w1).mono ?_); rintro e w2 ⟨g, rfl, hf, hw2, hb2⟩; have HF := Lib.hid hf; have HW2 := Lib.hid hw2; have HB2 := Lib.hid (HB1.out.trans (hb2.mono HB1.out.size)); clear hf hw2 hb2)
    have HFg : Hid (∀ b ∈ g.l, w.heap.size ≤ b ∧ b < w2.heap.size) := Lib.hid (fun b hb => ⟨Nat.le_trans HB1.out.size (HF.out b hb), HW2.out.lt b hb⟩)
    have f3 := Lib.hid (tevery_any g 1 now [] [] 0 w2 7 first p HW2.out (PI.zero _) (by unfold I64N; omega) (by omega))
    have HPi := Lib.hid ((PI.zero []).everyR 1 7 first p)
    have hst : everyC 1 [] 7 first p = 0 → (1 ≤ p ∧ p ≤ 4503599627370496) ∧ (0 ≤ first ∧ first ≤ 4503599627370496) ∧ DrI p first (everyL 1 [] 7 first p) (everyP 1 [] [] 7 first p) := dr_start rfl
    have HSt := Lib.hid hst
    clear hst f1 f2
    generalize everyC 1 [] 7 first p = cc at *
    generalize everyL 1 [] 7 first p = L0 at *
    generalize everyP 1 [] [] 7 first p = P0 at *
    by_cases hcc : cc = 0
    · subst hcc
      obtain ⟨hp, hf0, hdr⟩ := HSt.out rfl
      have HDr := Lib.hid hdr
      clear hdr HSt
      by_cases h20 : ss.length ≤ 20
      · go_upto_region 6 with (go_at_call 18; (with_reducible refine f3.out.mono ?_); rintro e w3 ⟨rfl, hw3, ht3⟩; have HW3 := Lib.hid hw3; have HB3 := Lib.hid (ht3.base HB2.out (fun b hb => (HFg.out b hb).1) HB2.out.size); clear hw3 ht3)
        go_wp2
        go_loopw [11, 48] (fun n i wr => ∃ (k : Nat) (nx now' : Int) (L : List Du) (P : List Pe), i = .int .i64 k ∧ k ≤ ss.length ∧ n = .int .i64 nx ∧ 0 ≤ nx ∧ nx ≤ 9007199254740992 ∧ Hid (DrI p nx L P) ∧ Hid (PI L P) ∧ Hid (Tms wr g 1 now' L P (1024 * k + 1)) ∧ Hid (Below w.heap.size w wr)) (fun _ i _ => ss.length - (intOf i).toNat)
        case atStart => exact ⟨0, first, now, L0, P0, rfl, by omega, rfl, hf0.1, by omega, HDr, HPi, HW3, HB3⟩
        case round =>
          obtain ⟨k, nx, now', L, P, rfl, hk, rfl, hn0, hn1, HDj, HPj, HWj, HBj⟩ := hrel
          by_cases hlt : k < ss.length
          · obtain ⟨a, rfl, hc⟩ := (HS.out.below HBj.out).int hlt
            obtain ⟨s, hs⟩ : ∃ s, ss.getD k 0 = s := ⟨_, rfl⟩
            have hsr : I64N s := HSr.out s (by rw [← hs, getD_lt hlt]; exact List.getElem_mem _)
            unfold I64N at hsr
            rw [hs] at hc
            clear hs
            have hgt : 0 ∉ g.f.l := fun hm => by have := (HFg.out _ (show 0 ∈ g.l by simp [TmF.l, hm])).1; have := Hlt.out; omega
            have HTj : Hid (Tab wr) := Lib.hid (HT.out.below HBj.out Hlt.out)
            have hpz : (p == 0) = false := beq_eq_false_iff_ne.2 (by omega)
            go_upto_region 10 with fail
            go_cut [13, 62] (fun s' v wx => s' = .int .i64 s ∧ (∃ bb, v = .bool bb ∧ (bb = false → ¬ (nx < s ∧ 900 < (s - nx) / p))) ∧ wr = wx)
            case first =>
              by_cases hns : nx < s
              · go_wp2
                go_meet
                exact ⟨rfl, ⟨_, rfl, fun h9 h8 => absurd h8.2 (of_decide_eq_false h9)⟩, rfl⟩
              · go_wp2
                go_meet
                exact ⟨rfl, ⟨_, rfl, fun _ h8 => absurd h8.1 (by omega)⟩, rfl⟩
            case rest =>
            obtain ⟨rfl, ⟨bb, rfl, hbb⟩, rfl⟩ := hcut
            go_upto_if 62 with fail
            cases bb
            · have hb9 := hbb rfl
              by_cases hcs : now' ≤ s ∧ s ≤ 4503599627370496
              · obtain ⟨M, L2, P2, hdr, r1⟩ := dr_one g now' L P (1024 * k + 1) s p nx hgt (by omega) hcs hp.1 hn0 HPj.out HDj.out
                have hM : M.length < 1024 := hdr.lt hp.1 hb9
                have hub := hdr.ub hp hcs.2 hn0 hn1
                unfold RunOk at r1
                have f5 := Lib.hid r1
                have HDr := Lib.hid hdr
                have hs2 := hcs.2
                clear hbb hb9 r1 hdr hcs
                go_upto_region 14 with (go_at_call 23; (with_reducible refine (f5.out _ HWj.out HTj.out).mono ?_); rintro e w5 ⟨A5, c5, rfl, hr5, ha5, hw5, ht5⟩; have HR5 := Lib.hid hr5; have HW5 := Lib.hid hw5; have HB5 := Lib.hid (ht5.base HBj.out (fun b hb => (HFg.out b hb).1) HBj.out.size); clear hr5 ha5 hw5 ht5)
                clear hc f5 HWj HTj
                go_upto_region 15 with fail
                have HS5 : Hid (Tab w5) := Lib.hid (HT.out.below HB5.out Hlt.out)
                go_loopw [11, 73] (fun n i wr => ∃ i' : Nat, i = .int .i64 i' ∧ i' ≤ M.length ∧ n = .int .i64 (nx + (i' : Int) * p) ∧ Hid (Below w5.heap.size w5 wr)) (fun _ i _ => M.length - (intOf i).toNat)
                case atStart => exact ⟨0, rfl, by omega, by simp, Lib.hid (Below.refl _ _)⟩
                case round =>
                  obtain ⟨i', rfl, hi', rfl, HBi⟩ := hrel
                  by_cases hlt2 : i' < M.length
                  · obtain ⟨a5, x, rfl, hx, g0, g1, g2⟩ := (HR5.out.below HBi.out).fiAt hlt2
                    obtain ⟨hxe, hxs⟩ := HDr.out.at' i' hlt2
                    rw [hx] at hxe
                    subst hxe
                    have hmul : nx + ((i' + 1 : Nat) : Int) * p = nx + (i' : Int) * p + p := by rw [show ((i' + 1 : Nat) : Int) = (i' : Int) + 1 by omega, Int.add_mul]; omega
                    have hpos : 0 ≤ (i' : Int) * p := Int.mul_nonneg (by omega) (by omega)
                    have hmx := Lib.hid hmul
                    obtain ⟨v, hv⟩ : ∃ v, nx + (i' : Int) * p = v := ⟨_, rfl⟩
                    dsimp only at g0 g1 g2
                    rw [hv] at hxs hmx g1 g2 ⊢
                    have hv0 : 0 ≤ v := by omega
                    clear hx hmul hpos hv
                    have e1 : wrap64 (s - v) = s - v := Go.IntWalk.wrap64_in _ (by omega)
                    have e2 : wrap64 (v + p) = v + p := Go.IntWalk.wrap64_in _ (by omega)
                    have e3 : ¬ s < v := by omega
                    go_wp2
                    refine ⟨⟨i' + 1, by go_num, by omega, by rw [hmx.out], Lib.hid (HBi.out.alloc HBi.out.size _)⟩, ?_⟩
                    simp [intOf]; omega
                  · obtain rfl : i' = M.length := by omega
                    obtain ⟨n2, hn2⟩ : ∃ n2, nx + (M.length : Int) * p = n2 := ⟨_, rfl⟩
                    have hst2 := HDr.out.st
                    have hfi2 := HDr.out.fin hM
                    rw [hn2] at hst2 hfi2 hub ⊢
                    obtain ⟨nv, bv, hnv, hnx⟩ := dr_next g s L2 P2 (1024 * k + 1 + 1024) p n2 hst2
                    have f6 := Lib.hid hnx
                    have HW6 := Lib.hid (HW5.out.below HBi.out)
                    have HS6 := Lib.hid (HS5.out.below HBi.out (Nat.lt_of_lt_of_le Hlt.out HB5.out.size))
                    have HB6 := Lib.hid (HB5.out.trans (HBi.out.mono HB5.out.size))
                    have HD6 := Lib.hid hst2
                    clear hnx hst2 hn2
                    obtain ⟨xx, xy⟩ := box_rules HW6.out.box
                    have lx := box_lt HW6.out.box
                    go_upto_region 22 with (go_at_call 27; (with_reducible refine (f6.out _ HW6.out HS6.out).mono ?_); rintro e w7 ⟨rfl, hb7⟩; have HW7 := Lib.hid (HW6.out.below hb7); have HB7 := Lib.hid (HB6.out.trans (hb7.mono HB6.out.size)); clear hb7)
                    clear xx xy lx
                    rcases hnv with ⟨q1, rfl, rfl⟩ | ⟨q1, rfl, rfl⟩
                    · have q2 : ¬ nv ≤ s := by have := hfi2 q1; omega
                      go_wp2
                      refine ⟨⟨k + 1, nv, s, L2, P2, by go_num, by omega, rfl, hub.1, hub.2, HD6, Lib.hid HDr.out.pi, Lib.hid (HW7.out.mono (by omega)), HB7⟩, ?_⟩
                      simp [intOf]; omega
                    · have q2 : ¬ n2 ≤ 4503599627370496 := by omega
                      go_wp2
                      refine ⟨⟨k + 1, n2, s, L2, P2, by go_num, by omega, rfl, hub.1, hub.2, HD6, Lib.hid HDr.out.pi, Lib.hid (HW7.out.mono (by omega)), HB7⟩, ?_⟩
                      simp [intOf]; omega
              · have f5 := Lib.hid (dr_bad g now' L P (1024 * k + 1) s hgt (by omega) hcs)
                clear hbb hb9 hcs
                go_wp2_with (go_at_call 23; (with_reducible refine (f5.out _ HWj.out HTj.out).mono ?_); rintro e w5 ⟨rfl, hw5, ht5⟩; have HW5 := Lib.hid hw5; have HB5 := Lib.hid (ht5.base HBj.out (fun b hb => (HFg.out b hb).1) HBj.out.size); clear hw5 ht5)
                refine ⟨⟨k + 1, nx, now', L, P, by go_num, by omega, rfl, hn0, hn1, HDj, HPj, Lib.hid (HW5.out.mono (by omega)), HB5⟩, ?_⟩
                simp [intOf]; omega
            · go_wp2
              go_ret
              exact ⟨rfl, HBj.out⟩
          · obtain rfl : k = ss.length := by omega
            go_wp2
            go_ret
            exact ⟨rfl, HBj.out⟩
      · have h20' : decide ((20 : Int) < (ss.length : Int)) = true := decide_eq_true (by omega)
        go_wp2_with (go_at_call 18; (with_reducible refine f3.out.mono ?_); rintro e w3 ⟨rfl, hw3, ht3⟩; have HB3 := Lib.hid (ht3.base HB2.out (fun b hb => (HFg.out b hb).1) HB2.out.size); clear hw3 ht3)
        go_ret
        exact ⟨rfl, HB3.out⟩
    · have hcc' : (cc != 0) = true := by simpa using hcc
      go_wp2_with (go_at_call 18; (with_reducible refine f3.out.mono ?_); rintro e w3 ⟨rfl, hw3, ht3⟩; have HB3 := Lib.hid (ht3.base HB2.out (fun b hb => (HFg.out b hb).1) HB2.out.size); clear hw3 ht3)
      go_ret
      exact ⟨rfl, HB3.out⟩
  · have f2 : Hid (∀ X, Calls Tryd.prog 12 #[.int .i64 now, .int .i64 1] X fun e w' => e = .returned (.tuple #[.pointer none, .int .i64 1]) ∧ X = w') := Lib.hid (fun X => tnew_bad now 1 X (fun h9 => hg ⟨h9.1, h9.2.1⟩))
    clear hs hsr hT hg
    go_enter Tryd.func4, Tryd.ntmps4
    go_upto_region 3 with (go_at_call 11; (with_reducible refine f1.out.mono ?_); rintro e w1 ⟨rfl, hb1⟩; have HB1 := Lib.hid hb1; clear hb1)
    go_wp2_with (go_at_call 12; (with_reducible refine (f2.out w1).mono ?_); rintro e w2 ⟨rfl, rfl⟩)
    go_ret
    exact ⟨rfl, HB1.out⟩
end Go.Proofs.YtiblpnadninmbaaDoor

/- vergelaw33: the walks of ConformTells and ConformMakes. Conditions: lists that read. -/
import Derived.Test.YtpdanmdpaanafaaConW
namespace Go.Proofs.Ytpdanmdpaanafaa
open Go.RowKit Go.Shelf

set_option maxHeartbeats 4000000 in
set_option maxRecDepth 100000 in
theorem tells33_cfg (mn mx sw : Int) (ts : List Tk) (ls : List Ln) (hs : List Th) (A : Option Addr) (ca : Nat) (B : Option Addr) (cb : Nat) (D : Option Addr) (cd : Nat) (acts : List Ac) (E : Option Addr) (ce : Nat) (ms : List Mk) (T : Option Addr) (tc : Nat) (line : Int) (w : World)
    (hlt0 : ts.length ≤ 1048576) (hll : ls.length ≤ 1048576) (hlh : hs.length ≤ 1048576) (hla : acts.length ≤ 1048576) (hlm : ms.length ≤ 1048576) (hcap : ms.length ≤ tc)
    (ht : Rd w A (ts.flatMap tkc)) (hl : Rd w B (ls.flatMap lnc)) (hh : Rd w D (hs.flatMap thc)) (hra : Rd w E (acts.flatMap acc)) (hrm : Rd w T (ms.flatMap mkc)) (hmx : I64 mx) (ht64 : ∀ p ∈ ts.map (·.prio) ++ hs.map (·.prio), I64 p)
    (h64 : ∀ k, k < ms.length → I64 (ms.getD k mk0).time ∧ I64 (ms.getD k mk0).who) :
    Calls Try.prog 4 #[cfv mn mx sw A ts.length ca B ls.length cb D hs.length cd, .slice E acts.length ce, .slice T ms.length tc, .int .i64 line] w fun e w' => e = .returned (.bool true) ∧ Below w.heap.size w w' := by
  have c1 := Lib.hid (fun w ht hl hh hr => acts_cfg mn mx sw ts ls hs A ca B cb D cd acts E ce w hlt0 hll hlh hla ht hl hh hmx ht64 hr)
  have c2 := Lib.hid (fun w ht hl hh hr => acts33_cfg mn mx sw ts ls hs A ca B cb D cd acts E ce w hlt0 hll hlh hla ht hl hh hmx hr)
  have c3 := Lib.hid (fun w ht hl hh hr => marks_cfg mn mx sw ts ls hs A ca B cb D cd ms T tc w hlt0 hll hlh hlm ht hl hh hmx ht64 hr h64)
  have c4 := Lib.hid (fun w ht hl hh hr => marks33_cfg mn mx sw ts ls hs A ca B cb D cd ms T tc w hlt0 hll hlh hlm hcap ht hl hh hmx hr)
  have c5 := Lib.hid (fun w ht hl hh hr => line_cfg mn mx sw ts ls hs A ca B cb D cd line ms T tc w hlt0 hll hlh hlm ht hl hh hmx ht64 hr (fun k hk => (h64 k hk).1))
  have c6 := Lib.hid (fun w ht hl hh hr => line33_cfg mn mx sw ts ls hs A ca B cb D cd line ms T tc w hlt0 hll hlh hlm ht hl hh hmx hr)
  have f0 := Lib.hid (fun w => lives33 w)
  have Ht := Lib.hid ht; have Hl := Lib.hid hl; have Hh := Lib.hid hh; have Ha := Lib.hid hra; have Hm := Lib.hid hrm
  clear ht hl hh hra hrm hmx ht64 h64 hcap
  unfold cfv RetC at *
  generalize Cf.why ⟨mn, mx, sw, ts, ls, hs⟩ = y at *
  generalize lineY y line ls.length = Y at *
  generalize (if y = 0 then ((countOk (actOk ts ls) acts : Nat) : Int) else 0) = n1 at *
  generalize (if y = 0 then ((marksN ts ms : Nat) : Int) else 0) = n2 at *
  generalize (if Y = 0 then ((lineN line (ls.getD line.toNat ln0).many (ls.getD line.toNat ln0).window ms : Nat) : Int) else 0) = n3 at *
  go_enter Try.func4, Try.ntmps4
  go_upto_region 1 with fail
  refine name_world fun W hW => ?_
  have HC : Hid (W.heap[w.heap.size]? = some (.cells #[.int .i64 mn, .int .i64 mx, .int .i64 sw, .slice A ts.length ca, .slice B ls.length cb, .slice D hs.length cd] 28 (0, 0))) := Lib.hid (by rw [hW]; exact heap_alloc_new w _)
  have HB : Hid (Below w.heap.size w W) := Lib.hid (by rw [hW]; exact (Below.refl _ _).alloc (Nat.le_refl _) _)
  have hR := fun w' (h : Hid (Below W.heap.size W w')) => (box_rules (box_keep HC.out h.out)).1
  have m1 := Lib.hid (fun w' (h : Hid (Below W.heap.size W w')) => (Ht.out.below HB.out).below h.out)
  have m2 := Lib.hid (fun w' (h : Hid (Below W.heap.size W w')) => (Hl.out.below HB.out).below h.out)
  have m3 := Lib.hid (fun w' (h : Hid (Below W.heap.size W w')) => (Hh.out.below HB.out).below h.out)
  have hS0 := S_refl' W
  have q0 := hR _ hS0
  clear hW
  have m4 := Lib.hid (fun w' (h : Hid (Below W.heap.size W w')) => (Ha.out.below HB.out).below h.out)
  have m5 := Lib.hid (fun w' (h : Hid (Below W.heap.size W w')) => (Hm.out.below HB.out).below h.out)
  by_cases hb : 300 < ms.length ∨ 200 < ts.length + ls.length + hs.length
  · have hb' : (300 : Int) < (ms.length : Int) ∨ (200 : Int) < (ts.length : Int) + ls.length + hs.length := by omega
    by_cases hm3 : (300 : Int) < (ms.length : Int)
    · clear hb hb'
      go_wp2_with (go_at_call 15; refine (f0.out _).mono ?_; rintro e w' ⟨rfl, hb⟩)
      go_ret
      exact ⟨rfl, HB.out.trans (Below.mono (B := W.heap.size) (by assumption) HB.out.size)⟩
    · have hb2 : (200 : Int) < (ts.length : Int) + ls.length + hs.length := by omega
      clear hb hb'
      go_wp2_with (go_at_call 15; refine (f0.out _).mono ?_; rintro e w' ⟨rfl, hb⟩)
      go_ret
      exact ⟨rfl, HB.out.trans (Below.mono (B := W.heap.size) (by assumption) HB.out.size)⟩
  · have hb1 : ¬ (300 : Int) < (ms.length : Int) := by omega
    have hb2 : ¬ (200 : Int) < (ts.length : Int) + ls.length + hs.length := by omega
    clear hb
    go_wp2_with fail
    refine (c1.out _ (m1.out _ hS0) (m2.out _ hS0) (m3.out _ hS0) (m4.out _ hS0)).mono ?_
    rintro e w1 ⟨rfl, hb1⟩
    have hS1 := S_call' hS0 hb1
    have q1 := hR _ hS1
    clear hb1 q0
    go_wp2_with fail
    refine (c2.out _ (m1.out _ hS1) (m2.out _ hS1) (m3.out _ hS1) (m4.out _ hS1)).mono ?_
    rintro e w2 ⟨rfl, hb1⟩
    have hS2 := S_call' hS1 hb1
    have q2 := hR _ hS2
    clear hb1 q1
    go_wp2_with fail
    refine (c3.out _ (m1.out _ hS2) (m2.out _ hS2) (m3.out _ hS2) (m5.out _ hS2)).mono ?_
    rintro e w3 ⟨rfl, hb1⟩
    have hS3 := S_call' hS2 hb1
    have q3 := hR _ hS3
    clear hb1 q2
    go_wp2_with fail
    refine (c4.out _ (m1.out _ hS3) (m2.out _ hS3) (m3.out _ hS3) (m5.out _ hS3)).mono ?_
    rintro e w4 ⟨rfl, hb1⟩
    have hS4 := S_call' hS3 hb1
    have q4 := hR _ hS4
    clear hb1 q3
    go_wp2_with fail
    refine (c5.out _ (m1.out _ hS4) (m2.out _ hS4) (m3.out _ hS4) (m5.out _ hS4)).mono ?_
    rintro e w5 ⟨rfl, hb1⟩
    have hS5 := S_call' hS4 hb1
    have q5 := hR _ hS5
    clear hb1 q4
    go_wp2_with fail
    refine (c6.out _ (m1.out _ hS5) (m2.out _ hS5) (m3.out _ hS5) (m5.out _ hS5)).mono ?_
    rintro e w6 ⟨rfl, hb1⟩
    have hS6 := S_call' hS5 hb1
    have q6 := hR _ hS6
    clear hb1 q5
    go_wp2_with fail
    refine (f0.out _).mono ?_
    rintro e w7 ⟨rfl, hb1⟩
    have hS7 := S_call' hS6 hb1
    have q7 := hR _ hS7
    clear hb1 q6
    go_wp2
    go_ret
    exact ⟨rfl, HB.out.trans (hS7.out.mono HB.out.size)⟩

set_option maxHeartbeats 4000000 in
set_option maxRecDepth 100000 in
theorem makes33_cfg (mn mx sw : Int) (ts : List Tk) (ls : List Ln) (hs : List Th) (A : Option Addr) (ca : Nat) (B : Option Addr) (cb : Nat) (D : Option Addr) (cd : Nat) (task n : Int) (w : World)
    (hlt0 : ts.length ≤ 1048576) (hll : ls.length ≤ 1048576) (hlh : hs.length ≤ 1048576)
    (ht : Rd w A (ts.flatMap tkc)) (hl : Rd w B (ls.flatMap lnc)) (hh : Rd w D (hs.flatMap thc)) (hmx : I64 mx) (ht64 : ∀ p ∈ ts.map (·.prio) ++ hs.map (·.prio), I64 p) :
    Calls Try.prog 5 #[cfv mn mx sw A ts.length ca B ls.length cb D hs.length cd, .int .i64 task, .int .i64 n] w fun e w' => e = .returned (.bool true) ∧ Below w.heap.size w w' := by
  have c1 := Lib.hid (fun w ht hl hh => dense_cfg mn mx sw ts ls hs A ca B cb D cd task n w hlt0 hll hlh ht hl hh hmx ht64)
  have c2 := Lib.hid (fun w ht hl hh => dense33_cfg mn mx sw ts ls hs A ca B cb D cd task n w hlt0 hll hlh ht hl hh hmx)
  have f0 := Lib.hid (fun w => lives33 w)
  have Ht := Lib.hid ht; have Hl := Lib.hid hl; have Hh := Lib.hid hh
  clear ht hl hh hmx ht64
  have HL : Hid ((densAll (Cf.why ⟨mn, mx, sw, ts, ls, hs⟩) ts task n).length ≤ 1048576) := Lib.hid (by
    unfold densAll
    split
    · rename_i h
      rw [dens_len]
      have : n ≤ 2048 := by
        apply Int.not_lt.1
        intro h2
        unfold denseY at h
        split at h
        · exact absurd h (by assumption)
        · rw [if_pos (.inr (.inr h2))] at h
          cases h
      omega
    · simp)
  unfold cfv RetA at *
  generalize Cf.why ⟨mn, mx, sw, ts, ls, hs⟩ = y at *
  generalize denseY y ts task n = Y at *
  generalize densAll y ts task n = L at *
  have c3 := Lib.hid (fun A c B d w ha hb => same31_one L HL.out A c B d w ha hb)
  have HL2 := HL.out
  go_enter Try.func5, Try.ntmps5
  go_upto_region 1 with fail
  refine name_world fun W hW => ?_
  have HC : Hid (W.heap[w.heap.size]? = some (.cells #[.int .i64 mn, .int .i64 mx, .int .i64 sw, .slice A ts.length ca, .slice B ls.length cb, .slice D hs.length cd] 28 (0, 0))) := Lib.hid (by rw [hW]; exact heap_alloc_new w _)
  have HB : Hid (Below w.heap.size w W) := Lib.hid (by rw [hW]; exact (Below.refl _ _).alloc (Nat.le_refl _) _)
  have hR := fun w' (h : Hid (Below W.heap.size W w')) => (box_rules (box_keep HC.out h.out)).1
  have m1 := Lib.hid (fun w' (h : Hid (Below W.heap.size W w')) => (Ht.out.below HB.out).below h.out)
  have m2 := Lib.hid (fun w' (h : Hid (Below W.heap.size W w')) => (Hl.out.below HB.out).below h.out)
  have m3 := Lib.hid (fun w' (h : Hid (Below W.heap.size W w')) => (Hh.out.below HB.out).below h.out)
  have hS0 := S_refl' W
  have q0 := hR _ hS0
  clear hW
  by_cases hb : (200 < n ∧ n ≤ 2048) ∨ (200 : Int) < (ts.length : Int) + ls.length + hs.length
  · by_cases h1 : 200 < n ∧ n ≤ 2048
    · obtain ⟨h1, h2⟩ := h1
      clear hb
      go_wp2_with (go_at_call 15; refine (f0.out _).mono ?_; rintro e w' ⟨rfl, hb⟩)
      go_ret
      exact ⟨rfl, HB.out.trans (Below.mono (B := W.heap.size) (by assumption) HB.out.size)⟩
    · have hb2 : (200 : Int) < (ts.length : Int) + ls.length + hs.length := by omega
      by_cases h3 : 200 < n
      · have h4 : ¬ n ≤ 2048 := fun h => h1 ⟨h3, h⟩
        clear hb h1
        go_wp2_with (go_at_call 15; refine (f0.out _).mono ?_; rintro e w' ⟨rfl, hb⟩)
        go_ret
        exact ⟨rfl, HB.out.trans (Below.mono (B := W.heap.size) (by assumption) HB.out.size)⟩
      · clear hb h1
        go_wp2_with (go_at_call 15; refine (f0.out _).mono ?_; rintro e w' ⟨rfl, hb⟩)
        go_ret
        exact ⟨rfl, HB.out.trans (Below.mono (B := W.heap.size) (by assumption) HB.out.size)⟩
  · have hb2 : ¬ (200 : Int) < (ts.length : Int) + ls.length + hs.length := fun h => hb (.inr h)
    have h1 : ¬ (200 < n ∧ n ≤ 2048) := fun h => hb (.inl h)
    clear hb
    by_cases h3 : 200 < n
    · have h4 : ¬ n ≤ 2048 := fun h => h1 ⟨h3, h⟩
      clear h1
      go_wp2_with fail
      refine (c1.out _ (m1.out _ hS0) (m2.out _ hS0) (m3.out _ hS0)).mono ?_
      rintro e w1 ⟨A1, k1, rfl, hr1, hb1⟩
      have hS1 := S_call' hS0 hb1
      have q1 := hR _ hS1
      have HR1 := Lib.hid hr1
      clear hb1 hr1 q0
      go_wp2_with fail
      refine (c2.out _ (m1.out _ hS1) (m2.out _ hS1) (m3.out _ hS1)).mono ?_
      rintro e w2 ⟨A2, k2, rfl, hr2, hb2⟩
      have hS2 := S_call' hS1 hb2
      have HR12 := Lib.hid (HR1.out.below hb2)
      have HR2 := Lib.hid hr2
      clear hb2 hr2 q1
      go_wp2_with fail
      refine (f0.out _).mono ?_
      rintro e w3 ⟨rfl, hb3⟩
      have hS3 := S_call' hS2 hb3
      have HR13 := Lib.hid (HR12.out.below hb3)
      have HR23 := Lib.hid (HR2.out.below hb3)
      clear hb3
      go_wp2_with fail
      refine (c3.out _ _ _ _ _ HR13.out HR23.out).mono ?_
      rintro e w4 ⟨rfl, hb4⟩
      have hS4 := S_call' hS3 hb4
      clear hb4
      go_wp2
      go_ret
      exact ⟨rfl, HB.out.trans (hS4.out.mono HB.out.size)⟩
    · clear h1
      go_wp2_with fail
      refine (c1.out _ (m1.out _ hS0) (m2.out _ hS0) (m3.out _ hS0)).mono ?_
      rintro e w1 ⟨A1, k1, rfl, hr1, hb1⟩
      have hS1 := S_call' hS0 hb1
      have q1 := hR _ hS1
      have HR1 := Lib.hid hr1
      clear hb1 hr1 q0
      go_wp2_with fail
      refine (c2.out _ (m1.out _ hS1) (m2.out _ hS1) (m3.out _ hS1)).mono ?_
      rintro e w2 ⟨A2, k2, rfl, hr2, hb2⟩
      have hS2 := S_call' hS1 hb2
      have HR12 := Lib.hid (HR1.out.below hb2)
      have HR2 := Lib.hid hr2
      clear hb2 hr2 q1
      go_wp2_with fail
      refine (f0.out _).mono ?_
      rintro e w3 ⟨rfl, hb3⟩
      have hS3 := S_call' hS2 hb3
      have HR13 := Lib.hid (HR12.out.below hb3)
      have HR23 := Lib.hid (HR2.out.below hb3)
      clear hb3
      go_wp2_with fail
      refine (c3.out _ _ _ _ _ HR13.out HR23.out).mono ?_
      rintro e w4 ⟨rfl, hb4⟩
      have hS4 := S_call' hS3 hb4
      clear hb4
      go_wp2
      go_ret
      exact ⟨rfl, HB.out.trans (hS4.out.mono HB.out.size)⟩
end Go.Proofs.Ytpdanmdpaanafaa

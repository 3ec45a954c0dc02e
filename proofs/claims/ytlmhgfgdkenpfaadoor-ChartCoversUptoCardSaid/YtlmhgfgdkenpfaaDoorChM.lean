/- Package vergeref39: the walk of Text. Conditions: a list that reads. -/
import Derived.Test.YtlmhgfgdkenpfaaDoorChL
import Derived.Test.YtlmhgfgdkenpfaaDoorChN
namespace Go.Proofs.YtlmhgfgdkenpfaaDoor
open Go.RowKit Go.Shelf
attribute [local go_sem] Oper.semAt_some

theorem num_any (i : Int) (h0 : 0 ≤ i) (h1 : i ≤ 9223372036854775807) (w : World) : Calls Tryd.prog 27 #[.int .i64 i] w fun e w' => (∃ T : ByteArray, e = .returned (.string T) ∧ Hid (T.data.toList = Lib.itoa i) ∧ T.size ≤ 21) ∧ w = w' := by
  obtain ⟨n, rfl⟩ : ∃ n : Nat, i = (n : Int) := ⟨i.toNat, by omega⟩
  refine (number_any n (by omega) w).mono ?_
  rintro e w' ⟨rfl, rfl⟩
  have hi : Lib.itoa (n : Int) = Lib.decDigits n := by unfold Lib.itoa; rw [if_neg (by omega)]; simp
  refine ⟨⟨_, rfl, by rw [hi]; exact Lib.hid rfl, ?_⟩, rfl⟩
  have := Lib.nDigits_le20 n (by omega)
  have h2 := Lib.decDigits_length n
  simp [ByteArray.size]
  omega
set_option maxHeartbeats 4000000 in
set_option maxRecDepth 100000 in
theorem text39_any (l : List Rn) (A : Option Addr) (c : Nat) (w : World) (hl : l.length ≤ 1048577) (hr : Rd w A (l.flatMap rnc)) (hkd : ∀ x ∈ l, 0 ≤ x.kind) :
    Calls Tryd.prog 15 #[.slice A l.length c] w (RetTx l w) := by
  have HR := Lib.hid hr
  have HK : Hid (∀ k, k < l.length → 0 ≤ (l.getD k rn0).kind) := Lib.hid (fun k hk => hkd _ (by simp [List.getD, hk]))
  have HG0 : Hid (txG 0 (⟨#[]⟩ : ByteArray).data.toList (l.drop 0) = txt l) := Lib.hid rfl
  clear hr hkd
  unfold RetTx
  generalize txt l = R at *
  obtain ⟨cc, hcc⟩ : ∃ cc : Int, cc = (if R.isSome = true then 0 else 2) := ⟨_, rfl⟩
  rw [← hcc]
  have HCc := Lib.hid hcc
  clear hcc
  go_enter Tryd.func15, Tryd.ntmps15
  go_wp2
  go_loopw [4, 9] (fun s i wr => ∃ (k : Nat) (S : ByteArray), k ≤ l.length ∧ i = .int .i64 k ∧ s = .string S ∧ S.size ≤ 60 * k ∧ Hid (txG k S.data.toList (l.drop k) = R) ∧ Hid (Below w.heap.size w wr)) (fun _ i _ => l.length - (intOf i).toNat)
  case atStart => exact ⟨0, ⟨#[]⟩, by omega, rfl, rfl, by simp [ByteArray.size], HG0, Lib.hid (Below.refl _ _)⟩
  case round =>
    obtain ⟨k, S, hk, rfl, rfl, hb, HG, hSr⟩ := hrel
    clear HG0
    by_cases hlt : k < l.length
    · obtain ⟨a, x, rfl, hx, g0, g1, g2, g3⟩ := (HR.out.below hSr.out).rnAt hlt
      have hkx := HK.out k hlt
      rw [hx] at hkx
      have HG2 := Lib.hid (show (if okR x = true then txG (k + 1) (S.data.toList ++ tx1 k x) (l.drop (k + 1)) else none) = R by rw [← HG.out, drop_at (d := rn0) hlt, hx]; rfl)
      have c1 := Lib.hid (fun w => time01_any x.ff w)
      have c2 := Lib.hid (fun w => time01_any x.tt w)
      clear hx HG
      by_cases hok : okR x = true
      · have HN := Lib.hid (show txG (k + 1) (S.data.toList ++ tx1 k x) (l.drop (k + 1)) = R by rw [← HG2.out, if_pos hok])
        obtain ⟨o1, o2, o3, o4, o5⟩ := of_decide_eq_true hok
        rw [o1] at c1
        rw [o2] at c2
        have r1 := of_decide_eq_true o1
        have r2 := of_decide_eq_true o2
        obtain ⟨x0, x1, x2, x3⟩ := x
        dsimp only at *
        clear hok HG2 o1 o2
        obtain ⟨kk, rfl⟩ : ∃ kk : Nat, x0 = (kk : Int) := ⟨x0.toNat, by omega⟩
        have o9 : kk < 4 := by omega
        have d1' : decide ((4 : Int) ≤ (kk : Int)) = false := by simp; omega
        have d2' : decide (x1 < 0) = false := by simp; omega
        have d3' : decide ((63 : Int) < x1) = false := by simp; omega
        go_upto_region 7 with (first | ((with_reducible refine (c1.out _).mono ?_); rintro e w' ⟨rfl, rfl⟩) | ((with_reducible refine (c2.out _).mono ?_); rintro e w' ⟨rfl, rfl⟩))
        refine name_world fun V hV => ?_
        have HX : Hid (V.heap[wr.heap.size]? = some (.cells #[.int .u8 kk, .int .i64 x1, .int .i64 x2, .int .i64 x3] 33 (0, 0))) := Lib.hid (by rw [hV]; exact heap_alloc_new wr _)
        have HB : Hid (Below w.heap.size w V) := Lib.hid (by rw [hV]; exact hSr.out.alloc hSr.out.size _)
        have sV := HB.out.size
        clear hV hSr g0 g1 g2 g3 c1 c2 d1' d2' d3'
        generalize wr.heap.size = D at *
        obtain ⟨xx, xy⟩ := box_rules HX.out
        have lx := box_lt HX.out
        have hlb : ∀ o, o = Obj.cells #[.string ⟨#[105]⟩, .string ⟨#[116]⟩, .string ⟨#[98]⟩, .string ⟨#[108]⟩] 9 → (V.alloc o).cell? ⟨V.heap.size, kk, none⟩ = some (.string ⟨#[letB (kk : Int)]⟩) := by
          rintro _ rfl
          rcases (show kk = 0 ∨ kk = 1 ∨ kk = 2 ∨ kk = 3 by omega) with rfl | rfl | rfl | rfl <;> exact new_cell rfl
        generalize hlbb : letB (kk : Int) = lb at hlb
        have HLb := Lib.hid hlbb
        clear hlbb
        have hlbA := hlb _ rfl
        clear hlb
        by_cases hk0 : k = 0
        · have dk : decide ((0 : Int) < (k : Int)) = false := by simp; omega
          have dk2 : decide (0 < k) = false := by simp; omega
          have Hk0 := Lib.hid hk0
          clear hk0
          have hz0 : ¬ 9223372036854775807 < S.size + 1 := by omega
          go_upto_region 10 with fail
          generalize hS : S ++ ⟨#[lb]⟩ = S1 at *
          have HE1 := Lib.hid (show S1.data.toList = S.data.toList ++ [lb] by rw [← hS]; simp)
          have hsz : S1.size ≤ S.size + 1 := by rw [← hS]; simp [ByteArray.size_append]; try exact Nat.le_refl _
          clear hS
          by_cases hkk : kk = 0
          · have Hkk := Lib.hid hkk
            have dkk : ((kk : Int) != 0) = false := by simp; omega
            clear hkk
            go_upto_region 12 with fail
            have HF : Hid (S.data.toList ++ tx1 k ⟨kk, x1, x2, x3⟩ = S1.data.toList ++ [58] ++ Lib.itoa (max 0 (x3 - x2))) := Lib.hid (by unfold tx1; dsimp only; rw [if_neg (show ¬ 0 < k by have := Hk0.out; omega), if_pos (show (kk : Int) = 0 by have := Hkk.out; omega), HE1.out,  HLb.out]; simp [List.append_assoc])
            have hwd : wrap64 (x3 - x2) = x3 - x2 := Go.IntWalk.wrap64_in _ (by omega)
            have hwi : IntKind.i64.wrap (x3 - x2) = x3 - x2 := IntWalk.i64_in _ (by omega)
            go_wp2_with (refine (num_any _ (by omega) (by omega) _).mono ?_; rintro e w' ⟨⟨T, rfl, hT, hT2⟩, rfl⟩; have hz1 : ¬ 9223372036854775807 < 1 + T.size := (by omega); have hz2 : ¬ 9223372036854775807 < S1.size + (1 + T.size) := (by omega); have hz3 : ¬ 9223372036854775807 < T.size + 1 := (by omega); have hz4 : ¬ 9223372036854775807 < S1.size + (T.size + 1) := (by omega))
            have hsl : (S1 ++ ((⟨#[58]⟩ : ByteArray) ++ T)).size ≤ S1.size + 22 := by
              simp [ByteArray.size_append]
              have h1 : (⟨#[58]⟩ : ByteArray).size = 1 := rfl
              omega
            have HNl : Hid (txG (k + 1) (S1 ++ ((⟨#[58]⟩ : ByteArray) ++ T)).data.toList (l.drop (k + 1)) = R) := Lib.hid (by
              rw [show (S1 ++ ((⟨#[58]⟩ : ByteArray) ++ T)).data.toList = S1.data.toList ++ [58] ++ T.data.toList by simp, hT.out, Int.max_comm, ← HF.out]
              exact HN.out)
            refine ⟨⟨k + 1, _, by omega, by go_num, rfl, by omega, HNl, Lib.hid (HB.out.alloc (by omega) _)⟩, ?_⟩
            simp [intOf]; omega
          · have Hkk := Lib.hid hkk
            have dkk : ((kk : Int) != 0) = true := by simp; omega
            clear hkk
            go_upto_region 12 with (refine (num_any x1 (by omega) (by omega) _).mono ?_; rintro e w' ⟨⟨T, rfl, hT, hT2⟩, rfl⟩; have hzT : ¬ 9223372036854775807 < S1.size + T.size := by omega)
            generalize hS : S1 ++ T = S2 at *
            have HE2 := Lib.hid (show S2.data.toList = S1.data.toList ++ Lib.itoa x1 by rw [← hS, ← hT.out]; simp)
            have hsz2 : S2.size ≤ S1.size + 21 := by rw [← hS]; simp [ByteArray.size_append]; omega
            clear hS hT hT2 hzT
            have HF : Hid (S.data.toList ++ tx1 k ⟨kk, x1, x2, x3⟩ = S2.data.toList ++ [58] ++ Lib.itoa (max 0 (x3 - x2))) := Lib.hid (by unfold tx1; dsimp only; rw [if_neg (show ¬ 0 < k by have := Hk0.out; omega), if_neg (show ¬ (kk : Int) = 0 by have := Hkk.out; omega), HE2.out, HE1.out,  HLb.out]; simp [List.append_assoc])
            have hwd : wrap64 (x3 - x2) = x3 - x2 := Go.IntWalk.wrap64_in _ (by omega)
            have hwi : IntKind.i64.wrap (x3 - x2) = x3 - x2 := IntWalk.i64_in _ (by omega)
            go_wp2_with (refine (num_any _ (by omega) (by omega) _).mono ?_; rintro e w' ⟨⟨T, rfl, hT, hT2⟩, rfl⟩; have hz1 : ¬ 9223372036854775807 < 1 + T.size := (by omega); have hz2 : ¬ 9223372036854775807 < S2.size + (1 + T.size) := (by omega); have hz3 : ¬ 9223372036854775807 < T.size + 1 := (by omega); have hz4 : ¬ 9223372036854775807 < S2.size + (T.size + 1) := (by omega))
            have hsl : (S2 ++ ((⟨#[58]⟩ : ByteArray) ++ T)).size ≤ S2.size + 22 := by
              simp [ByteArray.size_append]
              have h1 : (⟨#[58]⟩ : ByteArray).size = 1 := rfl
              omega
            have HNl : Hid (txG (k + 1) (S2 ++ ((⟨#[58]⟩ : ByteArray) ++ T)).data.toList (l.drop (k + 1)) = R) := Lib.hid (by
              rw [show (S2 ++ ((⟨#[58]⟩ : ByteArray) ++ T)).data.toList = S2.data.toList ++ [58] ++ T.data.toList by simp, hT.out, Int.max_comm, ← HF.out]
              exact HN.out)
            refine ⟨⟨k + 1, _, by omega, by go_num, rfl, by omega, HNl, Lib.hid (HB.out.alloc (by omega) _)⟩, ?_⟩
            simp [intOf]; omega
        · have dk : decide ((0 : Int) < (k : Int)) = true := by simp; omega
          have dk2 : decide (0 < k) = true := by simp; omega
          have Hk0 := Lib.hid hk0
          clear hk0
          have hz0 : ¬ 9223372036854775807 < S.size + 1 := by omega
          go_upto_region 9 with fail
          generalize hS : S ++ ⟨#[(32 : UInt8)]⟩ = S0 at *
          have HE0 := Lib.hid (show S0.data.toList = S.data.toList ++ [(32 : UInt8)] by rw [← hS]; simp)
          have hsz : S0.size ≤ S.size + 1 := by rw [← hS]; simp [ByteArray.size_append]; try exact Nat.le_refl _
          clear hS
          have hz1 : ¬ 9223372036854775807 < S0.size + 1 := by omega
          go_upto_region 10 with fail
          generalize hS : S0 ++ ⟨#[lb]⟩ = S1 at *
          have HE1 := Lib.hid (show S1.data.toList = S0.data.toList ++ [lb] by rw [← hS]; simp)
          have hsz : S1.size ≤ S0.size + 1 := by rw [← hS]; simp [ByteArray.size_append]; try exact Nat.le_refl _
          clear hS
          by_cases hkk : kk = 0
          · have Hkk := Lib.hid hkk
            have dkk : ((kk : Int) != 0) = false := by simp; omega
            clear hkk
            go_upto_region 12 with fail
            have HF : Hid (S.data.toList ++ tx1 k ⟨kk, x1, x2, x3⟩ = S1.data.toList ++ [58] ++ Lib.itoa (max 0 (x3 - x2))) := Lib.hid (by unfold tx1; dsimp only; rw [if_pos (show 0 < k by have := Hk0.out; omega), if_pos (show (kk : Int) = 0 by have := Hkk.out; omega), HE1.out, HE0.out, HLb.out]; simp [List.append_assoc])
            have hwd : wrap64 (x3 - x2) = x3 - x2 := Go.IntWalk.wrap64_in _ (by omega)
            have hwi : IntKind.i64.wrap (x3 - x2) = x3 - x2 := IntWalk.i64_in _ (by omega)
            go_wp2_with (refine (num_any _ (by omega) (by omega) _).mono ?_; rintro e w' ⟨⟨T, rfl, hT, hT2⟩, rfl⟩; have hz1 : ¬ 9223372036854775807 < 1 + T.size := (by omega); have hz2 : ¬ 9223372036854775807 < S1.size + (1 + T.size) := (by omega); have hz3 : ¬ 9223372036854775807 < T.size + 1 := (by omega); have hz4 : ¬ 9223372036854775807 < S1.size + (T.size + 1) := (by omega))
            have hsl : (S1 ++ ((⟨#[58]⟩ : ByteArray) ++ T)).size ≤ S1.size + 22 := by
              simp [ByteArray.size_append]
              have h1 : (⟨#[58]⟩ : ByteArray).size = 1 := rfl
              omega
            have HNl : Hid (txG (k + 1) (S1 ++ ((⟨#[58]⟩ : ByteArray) ++ T)).data.toList (l.drop (k + 1)) = R) := Lib.hid (by
              rw [show (S1 ++ ((⟨#[58]⟩ : ByteArray) ++ T)).data.toList = S1.data.toList ++ [58] ++ T.data.toList by simp, hT.out, Int.max_comm, ← HF.out]
              exact HN.out)
            refine ⟨⟨k + 1, _, by omega, by go_num, rfl, by omega, HNl, Lib.hid (HB.out.alloc (by omega) _)⟩, ?_⟩
            simp [intOf]; omega
          · have Hkk := Lib.hid hkk
            have dkk : ((kk : Int) != 0) = true := by simp; omega
            clear hkk
            go_upto_region 12 with (refine (num_any x1 (by omega) (by omega) _).mono ?_; rintro e w' ⟨⟨T, rfl, hT, hT2⟩, rfl⟩; have hzT : ¬ 9223372036854775807 < S1.size + T.size := by omega)
            generalize hS : S1 ++ T = S2 at *
            have HE2 := Lib.hid (show S2.data.toList = S1.data.toList ++ Lib.itoa x1 by rw [← hS, ← hT.out]; simp)
            have hsz2 : S2.size ≤ S1.size + 21 := by rw [← hS]; simp [ByteArray.size_append]; omega
            clear hS hT hT2 hzT
            have HF : Hid (S.data.toList ++ tx1 k ⟨kk, x1, x2, x3⟩ = S2.data.toList ++ [58] ++ Lib.itoa (max 0 (x3 - x2))) := Lib.hid (by unfold tx1; dsimp only; rw [if_pos (show 0 < k by have := Hk0.out; omega), if_neg (show ¬ (kk : Int) = 0 by have := Hkk.out; omega), HE2.out, HE1.out, HE0.out, HLb.out]; simp [List.append_assoc])
            have hwd : wrap64 (x3 - x2) = x3 - x2 := Go.IntWalk.wrap64_in _ (by omega)
            have hwi : IntKind.i64.wrap (x3 - x2) = x3 - x2 := IntWalk.i64_in _ (by omega)
            go_wp2_with (refine (num_any _ (by omega) (by omega) _).mono ?_; rintro e w' ⟨⟨T, rfl, hT, hT2⟩, rfl⟩; have hz1 : ¬ 9223372036854775807 < 1 + T.size := (by omega); have hz2 : ¬ 9223372036854775807 < S2.size + (1 + T.size) := (by omega); have hz3 : ¬ 9223372036854775807 < T.size + 1 := (by omega); have hz4 : ¬ 9223372036854775807 < S2.size + (T.size + 1) := (by omega))
            have hsl : (S2 ++ ((⟨#[58]⟩ : ByteArray) ++ T)).size ≤ S2.size + 22 := by
              simp [ByteArray.size_append]
              have h1 : (⟨#[58]⟩ : ByteArray).size = 1 := rfl
              omega
            have HNl : Hid (txG (k + 1) (S2 ++ ((⟨#[58]⟩ : ByteArray) ++ T)).data.toList (l.drop (k + 1)) = R) := Lib.hid (by
              rw [show (S2 ++ ((⟨#[58]⟩ : ByteArray) ++ T)).data.toList = S2.data.toList ++ [58] ++ T.data.toList by simp, hT.out, Int.max_comm, ← HF.out]
              exact HN.out)
            refine ⟨⟨k + 1, _, by omega, by go_num, rfl, by omega, HNl, Lib.hid (HB.out.alloc (by omega) _)⟩, ?_⟩
            simp [intOf]; omega
      · obtain ⟨x0, x1, x2, x3⟩ := x
        have HR0 := Lib.hid (show R = none by rw [← HG2.out, if_neg hok])
        unfold okR at hok
        dsimp only at *
        clear HG2
        cases hb1 : tmB x2 with
        | false =>
          rw [hb1] at c1
          clear hok hb1
          go_wp2_with (first | ((with_reducible refine (c1.out _).mono ?_); rintro e w' ⟨rfl, rfl⟩) | ((with_reducible refine (c2.out _).mono ?_); rintro e w' ⟨rfl, rfl⟩))
          refine bodyPost_ret (results_tmp2 rfl _ _ _) rfl ?_
          exact ⟨by rw [HCc.out, HR0.out]; rfl, hSr.out.alloc hSr.out.size _⟩
        | true =>
          rw [hb1] at c1
          cases hb2 : tmB x3 with
          | false =>
            rw [hb2] at c2
            clear hok hb1 hb2
            go_wp2_with (first | ((with_reducible refine (c1.out _).mono ?_); rintro e w' ⟨rfl, rfl⟩) | ((with_reducible refine (c2.out _).mono ?_); rintro e w' ⟨rfl, rfl⟩))
            refine bodyPost_ret (results_tmp2 rfl _ _ _) rfl ?_
            exact ⟨by rw [HCc.out, HR0.out]; rfl, hSr.out.alloc hSr.out.size _⟩
          | true =>
            rw [hb2] at c2
            rw [hb1, hb2] at hok
            by_cases b3 : 4 ≤ x0
            · clear hok hb1 hb2
              go_wp2_with (first | ((with_reducible refine (c1.out _).mono ?_); rintro e w' ⟨rfl, rfl⟩) | ((with_reducible refine (c2.out _).mono ?_); rintro e w' ⟨rfl, rfl⟩))
              refine bodyPost_ret (results_tmp2 rfl _ _ _) rfl ?_
              exact ⟨by rw [HCc.out, HR0.out]; rfl, hSr.out.alloc hSr.out.size _⟩
            · have d1' : decide ((4 : Int) ≤ x0) = false := by simp; omega
              by_cases b4 : x1 < 0
              · clear hok hb1 hb2
                go_wp2_with (first | ((with_reducible refine (c1.out _).mono ?_); rintro e w' ⟨rfl, rfl⟩) | ((with_reducible refine (c2.out _).mono ?_); rintro e w' ⟨rfl, rfl⟩))
                refine bodyPost_ret (results_tmp2 rfl _ _ _) rfl ?_
                exact ⟨by rw [HCc.out, HR0.out]; rfl, hSr.out.alloc hSr.out.size _⟩
              · have d2' : decide (x1 < 0) = false := by simp; omega
                by_cases b5 : 63 < x1
                · clear hok hb1 hb2
                  go_wp2_with (first | ((with_reducible refine (c1.out _).mono ?_); rintro e w' ⟨rfl, rfl⟩) | ((with_reducible refine (c2.out _).mono ?_); rintro e w' ⟨rfl, rfl⟩))
                  refine bodyPost_ret (results_tmp2 rfl _ _ _) rfl ?_
                  exact ⟨by rw [HCc.out, HR0.out]; rfl, hSr.out.alloc hSr.out.size _⟩
                · exact absurd (decide_eq_true ⟨rfl, rfl, by omega, by omega, by omega⟩) hok
    · obtain rfl : k = l.length := by omega
      have HN := Lib.hid (show some S.data.toList = R by rw [← HG.out, List.drop_length]; rfl)
      go_wp2
      refine bodyPost_ret (results_tmp2 rfl _ _ _) rfl ?_
      exact ⟨by rw [HCc.out, ← HN.out]; simp, hSr.out⟩
end Go.Proofs.YtlmhgfgdkenpfaaDoor

/- Package vergeref39: the walk of Runs. Conditions: lists that read. -/
import Derived.Test.YtlmhgfgdkenpfaaDoorChJ
namespace Go.Proofs.YtlmhgfgdkenpfaaDoor
open Go.RowKit Go.Shelf
attribute [local go_sem] Oper.semAt_some

theorem own_oneK {w : World} {e : TypeId} {k base : Nat} {cs : Array Value} (hb : base ≤ w.heap.size) (hk : cs.size = k) : (w.alloc (.cells cs e)).ownsRow base e k (.slice (some ⟨w.heap.size, 0, none⟩) 1 1) 1 cs.toList :=
  ⟨by simp [hk], .inr ⟨w.heap.size, 1, cs, rfl, hb, heap_alloc_new w _, Nat.le_refl _, by unfold maxLen; omega, by simp [hk], by rw [List.take_of_length_le (by simp [hk])]⟩⟩
theorem own_below' {w : World} {base : Nat} {e : TypeId} {k n c : Nat} {a : Addr} {vs : List Value} (h : w.ownsRow base e k (.slice (some a) n c) n vs) (m j : Nat) (u : Value) {w0 : World} {nA : Nat} (hb : Below nA w0 w) (hn : nA ≤ base) : Below nA w0 (w.setCell ⟨(a.add m).block, (a.add m).off + j, none⟩ u) :=
  hb.setCell (p := ⟨(a.add m).block, (a.add m).off + j, none⟩) (by have := (own_blk4 h m).1; show nA ≤ (a.add m).block; omega) _
theorem set_last {pre : List Rn} {x y : Rn} : (pre ++ [x]).set pre.length y = pre ++ [y] := by
  rw [List.set_append_right _ _ (Nat.le_refl _), Nat.sub_self]; rfl
theorem get_last {pre : List Rn} {x : Rn} : (pre ++ [x]).getD pre.length rn0 = x := by simp [List.getD]
set_option maxHeartbeats 8000000 in
set_option maxRecDepth 100000 in
theorem runs39_any (ms : List Mk) (start now : Int) (A : Option Addr) (c : Nat) (w : World) (hl : ms.length ≤ 1048576) (hr : Rd w A (ms.flatMap mkc)) :
    Calls Tryd.prog 7 #[.slice A ms.length c, .int .i64 start, .int .i64 now] w (RetRuns ms start now w) := by
  have fR := Lib.hid (right39_any ms A c start now w hl hr)
  have Hr := Lib.hid hr
  have HRu : Hid (runsL ms start now = (spL ms start now).foldl addR []) := Lib.hid rfl
  have HLn : Hid ((spL ms start now).length ≤ ms.length + 1) := Lib.hid (spG_len _ _ _)
  have HSp : Hid (spL ms start now = [] ++ spG now ⟨0, 0, start, 0⟩ (ms.drop 0)) := Lib.hid rfl
  clear hr
  unfold RetRuns runsO
  by_cases hg : rgB ms start now = true
  · rw [hg] at fR ⊢
    simp only [if_true]
    clear hg
    generalize runsL ms start now = RL at *
    generalize spL ms start now = L at *
    go_enter Tryd.func7, Tryd.ntmps7
    go_upto_region 3 with (go_at_call 21; refine fR.out.mono ?_; rintro e w1 ⟨rfl, hb1⟩; have HB1 := Lib.hid hb1; clear hb1)
    go_upto_region 4 with fail
    refine name_world fun V hV => ?_
    have HO1 : Hid (V.ownsRow w.heap.size 33 4 (.slice (some ⟨w1.heap.size, 0, none⟩) 1 1) 1 [.int .u8 0, .int .i64 0, .int .i64 start, .int .i64 0]) := Lib.hid (by rw [hV]; exact own_oneK (cs := #[.int .u8 0, .int .i64 0, .int .i64 start, .int .i64 0]) HB1.out.size rfl)
    have HBV : Hid (Below w.heap.size w V) := Lib.hid (by rw [hV]; exact HB1.out.alloc HB1.out.size _)
    clear hV HB1 fR
    generalize w1.heap.size = g at *
    go_wp2
    go_loopw [8, 25] (fun s i wr => ∃ (k : Nat) (A1 : Option Addr) (c1 : Nat) (pre : List Rn) (x : Rn), k ≤ ms.length ∧ i = .int .i64 k ∧ s = .slice A1 (pre.length + 1) c1 ∧ pre.length ≤ k ∧ Hid (L = pre ++ spG now x (ms.drop k)) ∧ Hid (wr.ownsRow w.heap.size 33 4 (.slice A1 (pre.length + 1) c1) (pre.length + 1) ((pre ++ [x]).flatMap rnc)) ∧ Hid (Below w.heap.size w wr)) (fun _ i _ => ms.length - (intOf i).toNat)
    case atStart => exact ⟨0, _, 1, [], ⟨0, 0, start, 0⟩, by omega, rfl, rfl, by simp, HSp, HO1, HBV⟩
    case round =>
      obtain ⟨k, A1, c1, pre, x, hk, rfl, rfl, hp, HL, HOr, hSr⟩ := hrel
      clear HO1 HBV HSp
      by_cases hlt : k < ms.length
      · obtain ⟨a, m, rfl, hm, z0, z1, z2, z3⟩ := (Hr.out.below hSr.out).mkAt hlt
        have HD := Lib.hid (drop_at (d := mk0) hlt)
        rw [hm] at HD
        clear hm
        obtain ⟨m0, m1, m2, m3⟩ := m
        dsimp only at *
        by_cases hk1 : m1 = 11
        · subst hk1
          have t9 : ((11 : Int) == 11) = true := by decide
          have hw : IntKind.u8.wrap m3 = m3 % 256 := by first | rfl | simp [IntKind.wrap] | (unfold IntKind.wrap; simp)
          have HL2 : Hid (L = (pre ++ [{ x with tt := m0 }]) ++ spG now ⟨m3 % 256, m2, m0, 0⟩ (ms.drop (k + 1))) := Lib.hid (by rw [← hw, HL.out, HD.out]; (conv => (lhs; unfold spG)); rw [if_pos rfl, List.append_assoc]; rfl)
          clear hw
          have hpl : (pre ++ [x]).length = pre.length + 1 := by simp
          obtain ⟨a1, y, rfl, hy, y0, y1, y2, y3⟩ := (own_rdK HOr.out).rnAt (k := pre.length) (by omega)
          clear hy
          have fz := own_froz' HOr.out (pre.length * 4) 3
          have y3A : ∀ o, (wr.alloc o).cell? ⟨(a1.add (pre.length * 4)).block, (a1.add (pre.length * 4)).off + 3, none⟩ = some (.int .i64 x.tt) := fun o => by
            obtain ⟨a2, y', ha, hy', _, _, _, h3⟩ := (own_rdK (own_allocK HOr.out o)).rnAt (k := pre.length) (by omega)
            cases ha
            obtain rfl : y' = x := hy'.symm.trans get_last
            exact h3
          have fzA : ∀ o, (wr.alloc o).frozen? ⟨(a1.add (pre.length * 4)).block, (a1.add (pre.length * 4)).off + 3, none⟩ = false := fun o => own_froz' (own_allocK HOr.out o) (pre.length * 4) 3
          have HF : Hid (((pre ++ [x]).flatMap rnc).set (pre.length * 4 + 3) (.int .i64 m0) = (pre ++ [{ x with tt := m0 }]).flatMap rnc) := Lib.hid ((flat_set4 (f := rnc) (d := rn0) (fun _ => rfl) (pre ++ [x]) pre.length 3 { x with tt := m0 } (.int .i64 m0) (by omega) (by decide) (by rw [get_last]; rfl)).trans (by rw [set_last]))
          have e1 : IntKind.i64.wrap (((pre.length : Int) + 1) - 1) = (pre.length : Int) := by rw [IntWalk.i64_in _ (by omega)]; omega
          have e2 : ((pre.length : Int) + 1) - 1 = (pre.length : Int) := by omega
          have e3 : IntKind.i64.wrap (pre.length : Int) = (pre.length : Int) := IntWalk.i64_in _ (by omega)
          go_upto_region 9 with fail
          refine name_world fun V hV => ?_
          have HPV := Lib.hid (own_put' (own_allocK HOr.out (.cells #[.int .i64 m0, .int .u8 11, .int .i64 m2, .int .i64 m3] 51)) (pre.length * 4) 3 (.int .i64 m0))
          rw [HF.out, ← hV] at HPV
          have hbl := (own_blockK HOr.out (own_blk4 HOr.out (pre.length * 4)).2).2.1
          have HMV : Hid (V.heap[wr.heap.size]? = some (.cells #[.int .i64 m0, .int .u8 11, .int .i64 m2, .int .i64 m3] 51 (0, 0))) := Lib.hid (by rw [hV]; exact box_far (heap_alloc_new wr _) (p := ⟨(a1.add (pre.length * 4)).block, (a1.add (pre.length * 4)).off + 3, none⟩) (by show wr.heap.size ≠ (a1.add (pre.length * 4)).block; omega) _)
          have HBV : Hid (Below w.heap.size w V) := Lib.hid (by rw [hV]; exact own_below' (own_allocK HOr.out _) _ _ _ (hSr.out.alloc hSr.out.size _) (Nat.le_refl _))
          have sV : wr.heap.size + 1 ≤ V.heap.size := by rw [hV]; simp [World.setCell]
          clear hV y0 y1 y2 y3 y3A fzA fz HF hbl HOr
          obtain ⟨vx, vy⟩ := box_rules HMV.out
          have lv := box_lt HMV.out
          have sb := hSr.out.size
          go_wp2_with (at_builtin; go_loud (refine wp_appK rfl _ _ sk_rn (by decide) rfl (own_allocK HPV.out _) rfl (by omega) (by simp; omega) V.heap.size [.int .u8 (m3 % 256), .int .i64 m2, .int .i64 m0, .int .i64 0] rfl rfl (fun j u hu => new_cell hu) rfl ?_); intro A3 c3 w3 ho3 hg3 _; have G3 := Lib.hid (grown_step HPV.out hg3); have HO3 := Lib.hid ho3; clear ho3 hg3)
          refine ⟨⟨k + 1, A3, c3, pre ++ [{ x with tt := m0 }], ⟨m3 % 256, m2, m0, 0⟩, by omega, by go_num, by rw [List.length_append]; rfl, by rw [List.length_append]; simp; omega, HL2, ?_, Lib.hid (G3.out.below HBV.out (Nat.le_refl _) (by omega))⟩, ?_⟩
          · rw [List.length_append, List.flatMap_append]; exact HO3
          · simp [intOf]; omega
        · have HL2 : Hid (L = pre ++ spG now x (ms.drop (k + 1))) := Lib.hid (by rw [HL.out, HD.out]; (conv => (lhs; unfold spG)); rw [if_neg hk1])
          have hk2 : (m1 == 11) = false := by simpa using hk1
          go_wp2
          refine ⟨⟨k + 1, A1, c1, pre, x, by omega, by go_num, rfl, by omega, HL2, own_allocK HOr.out _, hSr.out.alloc hSr.out.size _⟩, ?_⟩
          simp [intOf]; omega
      · obtain rfl : k = ms.length := by omega
        have HL2 : Hid (L = pre ++ [{ x with tt := now }]) := Lib.hid (by rw [HL.out, List.drop_length]; rfl)
        have hpl : (pre ++ [x]).length = pre.length + 1 := by simp
        obtain ⟨a1, y, rfl, hy, y0, y1, y2, y3⟩ := (own_rdK HOr.out).rnAt (k := pre.length) (by omega)
        clear hy
        have fz := own_froz' HOr.out (pre.length * 4) 3
        have HF : Hid (((pre ++ [x]).flatMap rnc).set (pre.length * 4 + 3) (.int .i64 now) = (pre ++ [{ x with tt := now }]).flatMap rnc) := Lib.hid ((flat_set4 (f := rnc) (d := rn0) (fun _ => rfl) (pre ++ [x]) pre.length 3 { x with tt := now } (.int .i64 now) (by omega) (by decide) (by rw [get_last]; rfl)).trans (by rw [set_last]))
        have e1 : IntKind.i64.wrap (((pre.length : Int) + 1) - 1) = (pre.length : Int) := by rw [IntWalk.i64_in _ (by omega)]; omega
        have e2 : ((pre.length : Int) + 1) - 1 = (pre.length : Int) := by omega
        have e3 : IntKind.i64.wrap (pre.length : Int) = (pre.length : Int) := IntWalk.i64_in _ (by omega)
        go_upto_region 12 with fail
        refine name_world fun V hV => ?_
        have HPV := Lib.hid (own_put' HOr.out (pre.length * 4) 3 (.int .i64 now))
        rw [HF.out, ← hV, ← HL2.out] at HPV
        have HBV : Hid (Below w.heap.size w V) := Lib.hid (by rw [hV]; exact own_below' HOr.out _ _ _ hSr.out (Nat.le_refl _))
        have sV : wr.heap.size ≤ V.heap.size := by rw [hV]; simp [World.setCell]
        have sb := hSr.out.size
        have hLl : L.length = pre.length + 1 := by rw [HL2.out]; simp
        have HRd := Lib.hid (own_rdK HPV.out)
        clear hV y0 y1 y2 y3 fz HF HOr HPV HL2 HL e1 e2 e3
        have hLl2 : pre.length + 1 = L.length := hLl.symm
        rw [hLl2]
        clear hLl hLl2 hpl y
        have HL1 : Hid (L.length ≤ 1048577) := Lib.hid (by have := HLn.out; omega)
        have HF0 : Hid ((L.drop 0).foldl addR [] = RL) := Lib.hid HRu.out.symm
        clear hp hk hlt HLn HRu Hr hSr
        go_wp2
        go_loopw [11, 61] (fun s i wr => ∃ (k : Nat) (B1 : Option Addr) (d1 : Nat) (out : List Rn), k ≤ L.length ∧ i = .int .i64 k ∧ s = .slice B1 out.length d1 ∧ out.length ≤ k ∧ Hid ((L.drop k).foldl addR out = RL) ∧ Hid (wr.ownsRow V.heap.size 33 4 (.slice B1 out.length d1) out.length (out.flatMap rnc)) ∧ Hid (Below V.heap.size V wr)) (fun _ i _ => L.length - (intOf i).toNat)
        case atStart => exact ⟨0, none, 0, [], by omega, rfl, rfl, by simp, HF0, own_nilK _ _ _ _, Lib.hid (Below.refl _ _)⟩
        case round =>
          obtain ⟨k, B1, d1, out, hk, rfl, rfl, ho, HFr, HOr, hSr⟩ := hrel
          clear HF0
          have hL1 := HL1.out
          by_cases hlt : k < L.length
          · obtain ⟨a, x, ha, hx, z0, z1, z2, z3⟩ := (HRd.out.below hSr.out).rnAt hlt
            cases ha
            have HFo := Lib.hid (show (L.drop (k + 1)).foldl addR (addR out x) = RL by rw [← HFr.out, drop_at (d := rn0) hlt, hx]; rfl)
            clear hx HFr
            obtain ⟨x0, x1, x2, x3⟩ := x
            dsimp only at *
            by_cases h0 : x2 = x3
            · have HAd := Lib.hid (show addR out ⟨x0, x1, x2, x3⟩ = out from if_pos h0)
              subst h0
              have h9 : (x2 == x2) = true := by simp
              go_wp2
              refine ⟨⟨k + 1, B1, d1, out, by omega, by go_num, rfl, by omega, Lib.hid (by rw [← HFo.out, HAd.out]), own_allocK HOr.out _, hSr.out.alloc hSr.out.size _⟩, ?_⟩
              simp [intOf]; omega
            · have h9 : (x2 == x3) = false := by simpa using h0
              by_cases hn : out.length = 0
              · have HAd := Lib.hid (show addR out ⟨x0, x1, x2, x3⟩ = out ++ [⟨x0, x1, x2, x3⟩] by unfold addR; rw [if_neg h0, if_neg (by omega)])
                have hn1 : decide ((0 : Int) < (out.length : Int)) = false := by simp [hn]
                have hn2 : decide (0 < out.length) = false := by simp [hn]
                clear hn
                go_wp2_with fail
                go_quiet (fail)
                go_upto_region 20 with fail
                refine name_world fun U hU => ?_
                have HX : Hid (U.heap[wr.heap.size]? = some (.cells #[.int .u8 x0, .int .i64 x1, .int .i64 x2, .int .i64 x3] 33 (0, 0))) := Lib.hid (by rw [hU]; exact heap_alloc_new wr _)
                have HO : Hid (U.ownsRow V.heap.size 33 4 (.slice B1 out.length d1) out.length (out.flatMap rnc)) := Lib.hid (by rw [hU]; exact own_allocK HOr.out _)
                have HBU : Hid (Below V.heap.size V U) := Lib.hid (by rw [hU]; first | exact hSr.out.alloc hSr.out.size _ | exact bdrewN (hSr.out.alloc hSr.out.size _) _)
                have sU : wr.heap.size + 1 ≤ U.heap.size := by rw [hU]; first | (simp; done) | exact Nat.le_of_eq (by simp; rfl) | (show _ ≤ (wr.alloc _).heap.size; simp)
                have sw := hSr.out.size
                clear hU HOr hSr
                obtain ⟨ux, uy⟩ := box_rules HX.out
                have lu := box_lt HX.out
                go_wp2_with (at_builtin; refine wp_appK rfl _ _ sk_rn (by decide) rfl (own_allocK HO.out _) rfl (by omega) (by simp; omega) U.heap.size [.int .u8 x0, .int .i64 x1, .int .i64 x2, .int .i64 x3] rfl rfl (fun j u hu => new_cell hu) rfl ?_; intro A3 c3 w3 ho3 hg3 _; have G3 := Lib.hid (grown_step HO.out hg3); have HO3 := Lib.hid ho3; clear ho3 hg3)
                refine ⟨⟨k + 1, A3, c3, out ++ [⟨x0, x1, x2, x3⟩], by omega, by go_num, by rw [List.length_append]; rfl, by rw [List.length_append]; simp; omega, Lib.hid (by rw [← HFo.out, HAd.out]), ?_, Lib.hid (G3.out.below HBU.out (Nat.le_refl _) (by omega))⟩, ?_⟩
                · rw [List.length_append, List.flatMap_append]; exact HO3
                · simp [intOf]; omega
              · obtain ⟨m, hm⟩ : ∃ m, out.length = m + 1 := ⟨out.length - 1, by omega⟩
                obtain ⟨b, y, rfl, hy, y0, y1, y2, y3⟩ := (own_rdK (own_allocK HOr.out (.cells #[.int .u8 x0, .int .i64 x1, .int .i64 x2, .int .i64 x3] 33))).rnAt (k := m) (by omega)
                have hAd0 : addR out ⟨x0, x1, x2, x3⟩ = if y.kind = x0 ∧ y.who = x1 then out.set m { y with tt := x3 } else out ++ [⟨x0, x1, x2, x3⟩] := by
                  unfold addR
                  rw [if_neg h0, show out.length - 1 = m by omega, hy]
                  by_cases hs : y.kind = x0 ∧ y.who = x1
                  · rw [if_pos ⟨by omega, hs⟩, if_pos hs]
                  · rw [if_neg (fun h => hs h.2), if_neg hs]
                have HAd0 := Lib.hid hAd0
                have Hm := Lib.hid hm
                have Hy := Lib.hid hy
                have hn1 : decide ((0 : Int) < (out.length : Int)) = true := by simp; omega
                have hn2 : decide (0 < out.length) = true := by simp; omega
                have hn3 : (0 : Int) < (out.length : Int) := by omega
                have e1 : IntKind.i64.wrap ((out.length : Int) - 1) = (m : Int) := by rw [IntWalk.i64_in _ (by omega)]; omega
                have e2 : (out.length : Int) - 1 = (m : Int) := by omega
                have e3 : IntKind.i64.wrap (m : Int) = (m : Int) := IntWalk.i64_in _ (by omega)
                have i1 : (0 : Int) ≤ (m : Int) := by omega
                have i2 : (m : Int) < (out.length : Int) := by omega
                clear hm hn hAd0 hy
                obtain ⟨q0, q1, q2, q3⟩ := y
                dsimp only at *
                go_wp2_with fail
                by_cases s0 : q0 = x0
                · subst s0
                  have t0 : (q0 == q0) = true := by simp
                  by_cases s1 : q1 = x1
                  · subst s1
                    have t1 : (q1 == q1) = true := by simp
                    have HAd : Hid (addR out ⟨q0, q1, x2, x3⟩ = out.set m ⟨q0, q1, q2, x3⟩) := Lib.hid (by rw [HAd0.out, if_pos ⟨rfl, rfl⟩])
                    clear HAd0
                    go_quiet (fail)
                    clear y0 y1 y2 y3
                    have hm2 := Hm.out
                    go_upto_region 19 with fail
                    refine name_world fun U hU => ?_
                    have HX : Hid (U.heap[wr.heap.size]? = some (.cells #[.int .u8 q0, .int .i64 q1, .int .i64 x2, .int .i64 x3] 33 (0, 0))) := Lib.hid (by rw [hU]; exact heap_alloc_new wr _)
                    have HO : Hid (U.ownsRow V.heap.size 33 4 (.slice (some b) out.length d1) out.length (out.flatMap rnc)) := Lib.hid (by rw [hU]; exact own_allocK HOr.out _)
                    have HBU : Hid (Below V.heap.size V U) := Lib.hid (by rw [hU]; first | exact hSr.out.alloc hSr.out.size _ | exact bdrewN (hSr.out.alloc hSr.out.size _) _)
                    have sU : wr.heap.size + 1 ≤ U.heap.size := by rw [hU]; first | (simp; done) | exact Nat.le_of_eq (by simp; rfl) | (show _ ≤ (wr.alloc _).heap.size; simp)
                    have sw := hSr.out.size
                    clear hU HOr hSr
                    obtain ⟨ux, uy⟩ := box_rules HX.out
                    have lu := box_lt HX.out
                    have fz := own_froz' HO.out (m * 4) 3
                    obtain ⟨b2, y', hb2, hy', _, _, _, v3⟩ := (own_rdK HO.out).rnAt (k := m) (by omega)
                    cases hb2
                    obtain rfl : y' = ⟨q0, q1, q2, q3⟩ := hy'.symm.trans Hy.out
                    dsimp only at v3
                    have HF : Hid ((out.flatMap rnc).set (m * 4 + 3) (.int .i64 x3) = (out.set m ⟨q0, q1, q2, x3⟩).flatMap rnc) := Lib.hid (flat_set4 (f := rnc) (d := rn0) (fun _ => rfl) out m 3 ⟨q0, q1, q2, x3⟩ (.int .i64 x3) (by omega) (by decide) (by rw [Hy.out]; rfl))
                    have HP := Lib.hid (own_put' HO.out (m * 4) 3 (.int .i64 x3))
                    rw [HF.out] at HP
                    have HB3 := Lib.hid (own_below' HO.out (m * 4) 3 (.int .i64 x3) HBU.out (Nat.le_refl _))
                    clear hy' HF hm2
                    go_wp2
                    refine ⟨⟨k + 1, some b, d1, out.set m ⟨q0, q1, q2, x3⟩, by omega, by go_num, by rw [List.length_set], by rw [List.length_set]; omega, Lib.hid (by rw [← HFo.out, HAd.out]), Lib.hid (by rw [List.length_set]; exact HP.out), HB3⟩, ?_⟩
                    simp [intOf]; omega
                  · have t1 : (q1 == x1) = false := by simpa using s1
                    have HAd : Hid (addR out ⟨q0, x1, x2, x3⟩ = out ++ [⟨q0, x1, x2, x3⟩]) := Lib.hid (by rw [HAd0.out, if_neg (fun h => s1 h.2)])
                    clear HAd0 s1
                    go_quiet (fail)
                    go_upto_region 20 with fail
                    refine name_world fun U hU => ?_
                    have HX : Hid (U.heap[wr.heap.size]? = some (.cells #[.int .u8 q0, .int .i64 x1, .int .i64 x2, .int .i64 x3] 33 (0, 0))) := Lib.hid (by rw [hU]; exact heap_alloc_new wr _)
                    have HO : Hid (U.ownsRow V.heap.size 33 4 (.slice (some b) out.length d1) out.length (out.flatMap rnc)) := Lib.hid (by rw [hU]; exact own_allocK HOr.out _)
                    have HBU : Hid (Below V.heap.size V U) := Lib.hid (by rw [hU]; first | exact hSr.out.alloc hSr.out.size _ | exact bdrewN (hSr.out.alloc hSr.out.size _) _)
                    have sU : wr.heap.size + 1 ≤ U.heap.size := by rw [hU]; first | (simp; done) | exact Nat.le_of_eq (by simp; rfl) | (show _ ≤ (wr.alloc _).heap.size; simp)
                    have sw := hSr.out.size
                    clear hU HOr hSr
                    obtain ⟨ux, uy⟩ := box_rules HX.out
                    have lu := box_lt HX.out
                    go_wp2_with (at_builtin; refine wp_appK rfl _ _ sk_rn (by decide) rfl (own_allocK HO.out _) rfl (by omega) (by simp; omega) U.heap.size [.int .u8 q0, .int .i64 x1, .int .i64 x2, .int .i64 x3] rfl rfl (fun j u hu => new_cell hu) rfl ?_; intro A3 c3 w3 ho3 hg3 _; have G3 := Lib.hid (grown_step HO.out hg3); have HO3 := Lib.hid ho3; clear ho3 hg3)
                    refine ⟨⟨k + 1, A3, c3, out ++ [⟨q0, x1, x2, x3⟩], by omega, by go_num, by rw [List.length_append]; rfl, by rw [List.length_append]; simp; omega, Lib.hid (by rw [← HFo.out, HAd.out]), ?_, Lib.hid (G3.out.below HBU.out (Nat.le_refl _) (by omega))⟩, ?_⟩
                    · rw [List.length_append, List.flatMap_append]; exact HO3
                    · simp [intOf]; omega
                · have t0 : (q0 == x0) = false := by simpa using s0
                  have HAd : Hid (addR out ⟨x0, x1, x2, x3⟩ = out ++ [⟨x0, x1, x2, x3⟩]) := Lib.hid (by rw [HAd0.out, if_neg (fun h => s0 h.1)])
                  clear HAd0 s0
                  go_quiet (fail)
                  go_upto_region 20 with fail
                  refine name_world fun U hU => ?_
                  have HX : Hid (U.heap[wr.heap.size]? = some (.cells #[.int .u8 x0, .int .i64 x1, .int .i64 x2, .int .i64 x3] 33 (0, 0))) := Lib.hid (by rw [hU]; exact heap_alloc_new wr _)
                  have HO : Hid (U.ownsRow V.heap.size 33 4 (.slice (some b) out.length d1) out.length (out.flatMap rnc)) := Lib.hid (by rw [hU]; exact own_allocK HOr.out _)
                  have HBU : Hid (Below V.heap.size V U) := Lib.hid (by rw [hU]; first | exact hSr.out.alloc hSr.out.size _ | exact bdrewN (hSr.out.alloc hSr.out.size _) _)
                  have sU : wr.heap.size + 1 ≤ U.heap.size := by rw [hU]; first | (simp; done) | exact Nat.le_of_eq (by simp; rfl) | (show _ ≤ (wr.alloc _).heap.size; simp)
                  have sw := hSr.out.size
                  clear hU HOr hSr
                  obtain ⟨ux, uy⟩ := box_rules HX.out
                  have lu := box_lt HX.out
                  go_wp2_with (at_builtin; refine wp_appK rfl _ _ sk_rn (by decide) rfl (own_allocK HO.out _) rfl (by omega) (by simp; omega) U.heap.size [.int .u8 x0, .int .i64 x1, .int .i64 x2, .int .i64 x3] rfl rfl (fun j u hu => new_cell hu) rfl ?_; intro A3 c3 w3 ho3 hg3 _; have G3 := Lib.hid (grown_step HO.out hg3); have HO3 := Lib.hid ho3; clear ho3 hg3)
                  refine ⟨⟨k + 1, A3, c3, out ++ [⟨x0, x1, x2, x3⟩], by omega, by go_num, by rw [List.length_append]; rfl, by rw [List.length_append]; simp; omega, Lib.hid (by rw [← HFo.out, HAd.out]), ?_, Lib.hid (G3.out.below HBU.out (Nat.le_refl _) (by omega))⟩, ?_⟩
                  · rw [List.length_append, List.flatMap_append]; exact HO3
                  · simp [intOf]; omega
          · obtain rfl : k = L.length := by omega
            have HN := Lib.hid (show out = RL by rw [← HFr.out, List.drop_length]; rfl)
            have HB4 := Lib.hid (HBV.out.trans (hSr.out.mono HBV.out.size))
            go_wp2
            refine bodyPost_ret (results_tmp2 rfl _ _ _) rfl ?_
            exact ⟨B1, d1, by rw [← HN.out]; rfl, by rw [← HN.out]; exact own_rdK HOr.out, HB4.out⟩
  · have hg' : rgB ms start now = false := by simpa using hg
    rw [hg'] at fR ⊢
    simp only [Bool.false_eq_true, if_false]
    clear hg HRu Hr HLn HSp
    go_enter Tryd.func7, Tryd.ntmps7
    go_wp2_with (go_at_call 21; refine fR.out.mono ?_; rintro e w1 ⟨rfl, hb1⟩; have HB := Lib.hid hb1; clear hb1)
    refine bodyPost_ret (results_tmp2 rfl _ _ _) rfl ?_
    exact ⟨none, 0, rfl, (fun i v h => by simp at h), HB.out⟩
end Go.Proofs.YtlmhgfgdkenpfaaDoor

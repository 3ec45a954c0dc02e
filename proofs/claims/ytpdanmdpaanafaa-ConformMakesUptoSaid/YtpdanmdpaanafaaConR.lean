/- Packages conform and vergeref33: the walks of Line. Conditions: lists that read. -/
import Derived.Test.YtpdanmdpaanafaaConQ
import Derived.Test.YtpdanmdpaanafaaWhyP
namespace Go.Proofs.Ytpdanmdpaanafaa
open Go.RowKit Go.Shelf

/-- How many, or none, and why. -/
def lineY (y i : Int) (n : Nat) : Int := if y ≠ 0 then y else if inR i n then 0 else 1
theorem lineY_bad {y i : Int} {n : Nat} (h : y ≠ 0) : lineY y i n = y := by unfold lineY; rw [if_pos h]
theorem lineY_no {i : Int} {n : Nat} (h : inR i n = false) : lineY 0 i n = 1 := by unfold lineY; rw [if_neg (by simp), h]; rfl
theorem lineY_ok {i : Int} {n : Nat} (h : inR i n = true) : lineY 0 i n = 0 := by unfold lineY; rw [if_neg (by simp), h]; rfl
theorem sl_i64 : SlT Try.prog 136 2 (.int .i64 0) 8 := SlT.mk' Try.underlying136 (by kernel_rfl) rfl
theorem lineN_le (who many win : Int) (ms : List Mk) : lineN who many win ms ≤ ms.length := by
  unfold lineN
  refine Nat.le_trans (entT_len _ _ _) ?_
  have : ∀ (l : List Nat) (p : Nat → Bool), countOk p l ≤ l.length := by
    intro l p
    induction l with
    | nil => exact Nat.le_refl _
    | cons x l ih => simp only [countOk]; split <;> simp; omega
  simpa using this (List.range ms.length) _
theorem entT_succ_yes {who : Int} {ms : List Mk} {k : Nat} {x : Mk} (hx : ms.getD k mk0 = x) (h : enters who x = true) : entT who ms (k + 1) = entT who ms k ++ [x.time] := by
  show entT who ms k ++ _ = _
  rw [hx, h]; rfl
theorem entT_succ_no {who : Int} {ms : List Mk} {k : Nat} {x : Mk} (hx : ms.getD k mk0 = x) (h : enters who x = false) : entT who ms (k + 1) = entT who ms k := by
  show entT who ms k ++ _ = _
  rw [hx, h]; simp
theorem lineOk_no {who many win : Int} {ms : List Mk} {k : Nat} {x : Mk} (hx : ms.getD k mk0 = x) (h : enters who x = false) : lineOk who many win ms k = true := by
  unfold lineOk; rw [hx, h]; rfl
theorem lineOk_yes {who many win : Int} {ms : List Mk} {k : Nat} {x : Mk} (hx : ms.getD k mk0 = x) (h : enters who x = true) : lineOk who many win ms k = fitsB many win (entT who ms k) x.time := by
  unfold lineOk; rw [hx, h]; rfl

theorem own_drewNK {w : World} {base : Nat} {e : TypeId} {k : Nat} {v : Value} {n : Nat} {vs : List Value} (h : w.ownsRow base e k v n vs) (m : Nat) : (w.drewN m).ownsRow base e k v n vs := h
set_option maxHeartbeats 4000000 in
set_option maxRecDepth 100000 in
theorem line_cfg (mn mx sw : Int) (ts : List Tk) (ls : List Ln) (hs : List Th) (A : Option Addr) (ca : Nat) (B : Option Addr) (cb : Nat) (D : Option Addr) (cd : Nat) (who : Int) (ms : List Mk) (T : Option Addr) (tc : Nat) (w : World)
    (hlt0 : ts.length ≤ 1048576) (hll : ls.length ≤ 1048576) (hlh : hs.length ≤ 1048576) (hlm : ms.length ≤ 1048576)
    (ht : Rd w A (ts.flatMap tkc)) (hl : Rd w B (ls.flatMap lnc)) (hh : Rd w D (hs.flatMap thc)) (hmx : I64 mx) (ht64 : ∀ p ∈ ts.map (·.prio) ++ hs.map (·.prio), I64 p) (hr : Rd w T (ms.flatMap mkc))
    (h64 : ∀ k, k < ms.length → I64 (ms.getD k mk0).time) :
    Calls Try.prog 20 #[cfv mn mx sw A ts.length ca B ls.length cb D hs.length cd, .int .i64 who, .slice T ms.length tc] w
      (RetC (lineY (Cf.why ⟨mn, mx, sw, ts, ls, hs⟩) who ls.length) (lineN who (ls.getD who.toNat ln0).many (ls.getD who.toNat ln0).window ms) w) := by
  have Ht := Lib.hid ht; have Hl := Lib.hid hl; have Hh := Lib.hid hh; have Hr := Lib.hid hr; have H64 := Lib.hid h64
  have f1 := Lib.hid (fun w ht hl hh => check_cfg mn mx sw ts ls hs A ca B cb D cd w hlt0 hll hlh ht hl hh hmx ht64)
  have Hy := Lib.hid (fun (h : Cf.why ⟨mn, mx, sw, ts, ls, hs⟩ = 0) => (cfIn_of h).ls)
  clear ht hl hh hmx ht64 hr h64
  unfold cfv at *
  generalize Cf.why ⟨mn, mx, sw, ts, ls, hs⟩ = y at *
  generalize hN : lineN who (ls.getD who.toNat ln0).many (ls.getD who.toNat ln0).window ms = N
  have HNN := Lib.hid hN; clear hN
  have HYb : Hid (y ≠ 0 → lineY y who ls.length = y) := Lib.hid (fun h => lineY_bad h)
  have HYo : Hid (y = 0 → inR who ls.length = true → lineY y who ls.length = 0) := Lib.hid (fun h h2 => by subst h; exact lineY_ok h2)
  have HYn : Hid (y = 0 → inR who ls.length = false → lineY y who ls.length = 1) := Lib.hid (fun h h2 => by subst h; exact lineY_no h2)
  generalize lineY y who ls.length = Y at *
  go_enter Try.func20, Try.ntmps20
  go_wp2_with fail
  refine (f1.out _ (Ht.out.alloc _) (Hl.out.alloc _) (Hh.out.alloc _)).mono ?_
  rintro e w2 ⟨rfl, hb⟩
  have HX := Lib.hid (box_keep (heap_alloc_new w (.cells #[.int .i64 mn, .int .i64 mx, .int .i64 sw, .slice A ts.length ca, .slice B ls.length cb, .slice D hs.length cd] 28)) hb)
  have HB := Lib.hid (((Below.refl w.heap.size w).alloc (Nat.le_refl _) _).trans (hb.mono (by simp)))
  clear hb f1
  obtain ⟨hx, hy⟩ := box_rules HX.out
  by_cases hy0 : y = 0
  · subst hy0
    have HLs := Lib.hid (Hy.out rfl)
    clear Hy
    go_upto_region 5 with fail
    refine name_world fun W hW => ?_
    have HD : Hid (W.heap[w2.heap.size]? = some (.cells #[.int .i64 mn, .int .i64 mx, .int .i64 sw, .slice A ts.length ca, .slice B ls.length cb, .slice D hs.length cd] 124 (0, 0))) := Lib.hid (by rw [hW]; exact heap_alloc_new w2 _)
    have HBW : Hid (Below w.heap.size w W) := Lib.hid (by rw [hW]; exact HB.out.alloc HB.out.size _)
    clear hW
    by_cases hin : inR who ls.length = true
    · obtain rfl := HYo.out (by first | rfl | trivial) hin
      clear HYb HYo HYn
      obtain ⟨j, rfl, hj⟩ := inR_get hin
      obtain ⟨a, x, rfl, hx2, g0, g1, g2, g3⟩ := (Hl.out.below HBW.out).lnAt hj
      have fT := Lib.hid (deal_line mn mx sw A ts.length ca a ls.length cb D hs.length cd w2.heap.size j hj W HD.out)
      have HLI : Hid (LnIn x) := Lib.hid (by rw [← hx2]; exact HLs.out _ (getD_mem hj))
      have hq : ls.getD (j : Int).toNat ln0 = x := hx2
      rw [hq] at HNN
      clear hin hx2 hq HLs g0 g1
      obtain ⟨x0, x1, x2, x3⟩ := x
      dsimp only at g2 g3 HNN
      obtain ⟨p, rfl⟩ : ∃ p : Nat, x2 = p := ⟨x2.toNat, by have := HLI.out.many; dsimp only at this; omega⟩
      have hp1 : 1 ≤ p ∧ p ≤ 64 := by have := HLI.out.many; dsimp only at this; omega
      have hw1 : 0 ≤ x3 ∧ x3 < 9223372036854775808 := by have := HLI.out.window; dsimp only at this; omega
      have HN : Hid (∀ k, k < ms.length → (∀ i, i < k → lineOk j p x3 ms i = true) → lineOk j p x3 ms k = false → lineN j p x3 ms = (entT j ms k).length) := Lib.hid (fun k hk h hb => lineN_at hk h hb)
      have HA : Hid ((∀ i, i < ms.length → lineOk j p x3 ms i = true) → lineN j p x3 ms = (entT j ms ms.length).length) := Lib.hid (fun h => lineN_all h)
      have HF : Hid (∀ k, k < ms.length → (∀ i, i < k → lineOk j p x3 ms i = true) → fitsC p x3 (entT j ms k) (ms.getD k mk0).time = fitsB p x3 (entT j ms k) (ms.getD k mk0).time) := Lib.hid (fun k hk h => fits_eq (entT_sorted k h) (H64.out k hk) (entT_i64 H64.out k (by omega)) (by omega) hw1)
      rw [HNN.out] at HA
      have HN := Lib.hid (fun k hk h hb => HNN.out.symm.trans (HN.out k hk h hb))
      clear HLI HNN
      go_wp2_with (refine (fT.out).mono ?_; rintro e w' ⟨rfl, rfl⟩)
      have fA := Lib.hid (fun t l w => apart_any t l x3 w)
      go_loopw [11, 30] (fun s i wr => ∃ (k n : Nat) (A1 : Option Addr) (c1 : Nat), k ≤ ms.length ∧ i = .int .i64 k ∧ s = .slice A1 n c1 ∧ n ≤ k ∧ Hid ((entT j ms k).length = n) ∧
        wr.ownsRow W.heap.size 2 1 (.slice A1 n c1) n ((entT j ms k).map (.int .i64)) ∧ Below W.heap.size W wr ∧ Hid (∀ i, i < k → lineOk j p x3 ms i = true)) (fun _ i _ => ms.length - (intOf i).toNat)
      case atStart => exact ⟨0, 0, none, 0, by omega, rfl, rfl, by omega, rfl, own_nilK _ _ _ _, Below.refl _ _, fun j hj => absurd hj (Nat.not_lt_zero _)⟩
      case round =>
        obtain ⟨k, n, A1, c1, hk, rfl, rfl, hnk, Hn, ho, hB, hm⟩ := hrel
        have HO := Lib.hid ho; have sB := hB.size; have HWr := Lib.hid hB
        clear ho hB
        by_cases hlt : k < ms.length
        · have HB2 := Lib.hid (HBW.out.trans (HWr.out.mono HBW.out.size))
          obtain ⟨a', x, rfl, hx2, q0, q1, q2, q3⟩ := (Hr.out.below HB2.out).mkAt hlt
          have HX2 := Lib.hid hx2; clear hx2
          have HF2 := Lib.hid (HF.out k hlt hm.out)
          rw [HX2.out] at HF2
          have hl64 := H64.out k hlt
          rw [HX2.out] at hl64
          have HL64 := Lib.hid hl64; clear hl64
          have gA := (HWr.out.cell (p := ⟨(a.add (j * 4)).block, (a.add (j * 4)).off + 2, none⟩) (World.block_lt_of_cell? W _ g2)).trans g2
          have gB := (HWr.out.cell (p := ⟨(a.add (j * 4)).block, (a.add (j * 4)).off + 3, none⟩) (World.block_lt_of_cell? W _ g3)).trans g3
          have lA := World.block_lt_of_cell? wr _ gA
          have HNk := Lib.hid (HN.out k hlt hm.out)
          obtain ⟨x0, x1, x2, x4⟩ := x
          dsimp only at q0 q1 q2 q3 HF2 HL64
          by_cases he : x1 = 4 ∧ x2 = (j : Int)
          · obtain ⟨rfl, rfl⟩ := he
            have HE : Hid (enters j ⟨x0, 4, j, x4⟩ = true) := Lib.hid (by simp [enters])
            have HT := Lib.hid (entT_succ_yes HX2.out HE.out)
            have HV := Lib.hid ((lineOk_yes (many := p) (win := x3) HX2.out HE.out).trans HF2.out.symm)
            clear HF2 HE HX2
            dsimp only at HT HV
            have hN2 : Hid (lineOk j p x3 ms k = false → N = n) := Lib.hid (fun h => (HNk.out h).trans Hn.out)
            have hT1 : Hid ((entT j ms (k + 1)).length = n + 1) := Lib.hid (by rw [HT.out, List.length_append, Hn.out]; rfl)
            clear HNk
            generalize entT j ms k = l at *
            unfold fitsC at HV
            rw [Hn.out] at HV
            have htn : ((p : Int)).toNat = p := by simp
            rw [htn] at HV
            clear htn
            by_cases hn : 0 < n
            · obtain ⟨z, hz⟩ : ∃ z, z = n - 1 := ⟨_, rfl⟩
              rw [← hz] at HV
              obtain ⟨b, rfl, hc⟩ := (own_rdK HO.out).int (i := z) (by rw [Hn.out]; omega)
              have lb := Rd.lt hc
              have e5 : IntKind.i64.wrap ((n : Int) - 1) = (z : Int) := by rw [IntWalk.i64_in _ (by omega)]; omega
              have e6 : z < n := by omega
              have e7 : decide (0 < n) = true := by simp; omega
              have e8 : decide ((0 : Int) < (n : Int)) = true := by simp; omega
              rw [e7, Bool.true_and] at HV
              have Hz := Lib.hid hz
              clear hz hn
              generalize l.getD z 0 = tl at *
              have hcA : ∀ o, (wr.alloc o).cell? (b.add z) = some (.int .i64 tl) := fun o => ((((Below.refl wr.heap.size wr).alloc (Nat.le_refl _) o).cell (p := b.add z) (by rw [add_block]; exact lb))).trans hc
              by_cases hlz : x0 < tl
              · rw [decide_eq_true hlz, Bool.not_true, Bool.false_and] at HV
                go_wp2
                go_big_quiet (fail)
                go_wp2
                go_ret2
                exact ⟨by rw [hN2.out HV.out, if_pos rfl]; rfl, HBW.out.trans ((bdrewN (HWr.out.alloc sB _) _).mono HBW.out.size)⟩
              · have hlz' := decide_eq_false hlz
                rw [hlz', Bool.not_false, Bool.true_and] at HV
                by_cases hp : p ≤ n
                · obtain ⟨q, hq⟩ : ∃ q, q = n - p := ⟨_, rfl⟩
                  rw [← hq] at HV
                  obtain ⟨_, e, hc2⟩ := (own_rdK HO.out).int (i := q) (by rw [Hn.out]; omega)
                  cases e
                  have f5 : IntKind.i64.wrap ((n : Int) - (p : Int)) = (q : Int) := by rw [IntWalk.i64_in _ (by omega)]; omega
                  have f6 : q < n := by omega
                  have f7 : decide (p ≤ n) = true := by simp; omega
                  have f8 : decide ((p : Int) ≤ (n : Int)) = true := by simp; omega
                  rw [f8, Bool.true_and] at HV
                  have fA2 := Lib.hid (fun w => fA.out x0 (l.getD q 0) w)
                  clear hq hp
                  generalize l.getD q 0 = tq at *
                  generalize apartB x0 tq x3 = v at *
                  have hcB : ∀ o, (wr.alloc o).cell? (b.add q) = some (.int .i64 tq) := fun o => ((((Below.refl wr.heap.size wr).alloc (Nat.le_refl _) o).cell (p := b.add q) (by rw [add_block]; exact lb))).trans hc2
                  have gA2 := fun o => ((((Below.refl wr.heap.size wr).alloc (Nat.le_refl _) o).cell (p := ⟨(a.add (j * 4)).block, (a.add (j * 4)).off + 2, none⟩) lA)).trans gA
                  have gB2 := fun o => ((((Below.refl wr.heap.size wr).alloc (Nat.le_refl _) o).cell (p := ⟨(a.add (j * 4)).block, (a.add (j * 4)).off + 3, none⟩) lA)).trans gB
                  cases v with
                  | false =>
                    rw [Bool.not_false, Bool.not_true] at HV
                    go_wp2
                    go_big_quiet (fail)
                    go_wp2
                    go_big_quiet ((go_at_call 48; exact (fA2.out _).mono fun _ _ ⟨a, b⟩ => ⟨a, _, b.symm⟩))
                    go_wp2
                    go_ret2
                    exact ⟨by rw [hN2.out HV.out, if_pos rfl]; rfl, HBW.out.trans ((bdrewN (bdrewN (HWr.out.alloc sB _) _) _).mono HBW.out.size)⟩
                  | true =>
                    rw [Bool.not_true, Bool.not_false] at HV
                    go_wp2
                    go_big_quiet (fail)
                    go_wp2
                    go_big_quiet ((go_at_call 48; exact (fA2.out _).mono fun _ _ ⟨a, b⟩ => ⟨a, _, b.symm⟩))
                    go_wp2_with (at_builtin; go_loud (refine wp_app1g rfl _ _ sl_i64 (by decide) rfl (own_allocK (own_drewNK (own_allocK HO.out _) _) _) rfl (by omega) (by simp; omega) _ (.int .i64 x0) rfl (by go_simp) rfl ?_); intro A4 c4 w4 ho4 hg4 _; have G4 := Lib.hid (grown_step (own_drewNK (own_allocK HO.out _) _) hg4); have HO4 := Lib.hid ho4; clear ho4 hg4)
                    go_roundw
                    case rel =>
                      refine ⟨k + 1, n + 1, A4, c4, by omega, by go_num, rfl, by omega, hT1, by rw [HT.out, List.map_append]; exact HO4.out, G4.out.below (bdrewN (HWr.out.alloc sB _) _) (Nat.le_refl _) (by simp; omega), fun i hi => ?_⟩
                      by_cases e : i = k
                      · subst e; exact HV.out
                      · exact hm.out i (by omega)
                    case measure => simp [intOf]; omega
                · have f7 : decide (p ≤ n) = false := by simp; omega
                  have f8 : decide ((p : Int) ≤ (n : Int)) = false := by simp; omega
                  rw [f8] at HV
                  clear hp
                  go_wp2
                  go_big_quiet (fail)
                  go_wp2
                  go_big_quiet (fail)
                  go_wp2_with (at_builtin; go_loud (refine wp_app1g rfl _ _ sl_i64 (by decide) rfl (own_allocK (own_drewNK (own_allocK HO.out _) _) _) rfl (by omega) (by simp; omega) _ (.int .i64 x0) rfl (by go_simp) rfl ?_); intro A4 c4 w4 ho4 hg4 _; have G4 := Lib.hid (grown_step (own_drewNK (own_allocK HO.out _) _) hg4); have HO4 := Lib.hid ho4; clear ho4 hg4)
                  go_roundw
                  case rel =>
                    refine ⟨k + 1, n + 1, A4, c4, by omega, by go_num, rfl, by omega, hT1, by rw [HT.out, List.map_append]; exact HO4.out, G4.out.below (bdrewN (HWr.out.alloc sB _) _) (Nat.le_refl _) (by simp; omega), fun i hi => ?_⟩
                    by_cases e : i = k
                    · subst e; exact HV.out
                    · exact hm.out i (by omega)
                  case measure => simp [intOf]; omega
            · have e1 : decide ((0 : Int) < (n : Int)) = false := by simp; omega
              have e2 : decide (0 < n) = false := by simp; omega
              have e3 : decide ((p : Int) ≤ (n : Int)) = false := by simp; omega
              have e4 : decide (p ≤ n) = false := by simp; omega
              rw [e2, e3] at HV
              clear hn
              go_wp2
              go_big_quiet (fail)
              go_wp2
              go_big_quiet (fail)
              go_wp2_with (at_builtin; go_loud (refine wp_app1g rfl _ _ sl_i64 (by decide) rfl (own_allocK (own_drewNK (own_allocK HO.out _) _) _) rfl (by omega) (by simp; omega) _ (.int .i64 x0) rfl (by go_simp) rfl ?_); intro A4 c4 w4 ho4 hg4 _; have G4 := Lib.hid (grown_step (own_drewNK (own_allocK HO.out _) _) hg4); have HO4 := Lib.hid ho4; clear ho4 hg4)
              go_roundw
              case rel =>
                refine ⟨k + 1, n + 1, A4, c4, by omega, by go_num, rfl, by omega, hT1, by rw [HT.out, List.map_append]; exact HO4.out, G4.out.below (bdrewN (HWr.out.alloc sB _) _) (Nat.le_refl _) (by simp; omega), fun i hi => ?_⟩
                by_cases e : i = k
                · subst e; exact HV.out
                · exact hm.out i (by omega)
              case measure => simp [intOf]; omega
          · have HE : Hid (enters j ⟨x0, x1, x2, x4⟩ = false) := Lib.hid (by unfold enters; simpa using he)
            have HT := Lib.hid (entT_succ_no HX2.out HE.out)
            have HV2 : Hid (lineOk j p x3 ms k = true) := Lib.hid (lineOk_no HX2.out HE.out)
            clear HF2 HE HX2 HNk
            by_cases h4 : x1 = 4
            · subst h4
              have hne : (x2 != (j : Int)) = true := by simpa using he
              clear he
              go_wp2
              go_roundw
              case rel =>
                refine ⟨k + 1, n, A1, c1, by omega, by go_num, rfl, by omega, by rw [HT.out]; exact Hn, by rw [HT.out]; exact own_allocK HO.out _, HWr.out.alloc sB _, fun i hi => by (by_cases e : i = k; (subst e; exact HV2.out); exact hm.out i (by omega))⟩
              case measure => simp [intOf]; omega
            · have hne : (x1 != 4) = true := by simpa using h4
              clear he h4
              go_wp2
              go_roundw
              case rel =>
                refine ⟨k + 1, n, A1, c1, by omega, by go_num, rfl, by omega, by rw [HT.out]; exact Hn, by rw [HT.out]; exact own_allocK HO.out _, HWr.out.alloc sB _, fun i hi => by (by_cases e : i = k; (subst e; exact HV2.out); exact hm.out i (by omega))⟩
              case measure => simp [intOf]; omega
        · obtain rfl : k = ms.length := by omega
          go_wp2
          go_ret2
          exact ⟨by rw [HA.out hm.out, Hn.out, if_pos rfl]; rfl, HBW.out.trans (HWr.out.mono HBW.out.size)⟩
    · have hno := inR_no hin
      obtain rfl := HYn.out (by first | rfl | trivial) hno
      have fT := Lib.hid (deal_line_no mn mx sw A ts.length ca B ls.length cb D hs.length cd w2.heap.size who hno W HD.out)
      clear hin hno HYb HYo HYn
      go_wp2_with (refine (fT.out).mono ?_; rintro e w' ⟨rfl, rfl⟩)
      go_ret2
      exact ⟨rfl, HBW.out⟩
  · have hY := (HYb.out hy0).symm
    subst hY
    clear HYb HYo HYn HNN
    have hy1 : (y != 0) = true := by simpa using hy0
    have HZ := Lib.hid (retC_no hy0 N)
    clear hy0
    go_wp2
    go_ret2
    exact ⟨by rw [HZ.out]; rfl, HB.out⟩
end Go.Proofs.Ytpdanmdpaanafaa

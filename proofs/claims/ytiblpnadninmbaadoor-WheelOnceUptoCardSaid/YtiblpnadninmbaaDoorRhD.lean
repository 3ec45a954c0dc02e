/- Package vergeref08: the walk of Move. Conditions: lists that read. -/
import Derived.Test.YtiblpnadninmbaaDoorCopyK
import Derived.Test.YtiblpnadninmbaaDoorMvP
import Derived.Test.YtiblpnadninmbaaDoorRhC
import Derived.Deep.RegionLaw
namespace Go.Proofs.YtiblpnadninmbaaDoor
open Go.RowKit Go.Shelf
attribute [local go_sem] Oper.semAt_some
theorem fil_take (p : Du → Bool) {L : List Du} {k : Nat} (h : k < L.length) : (L.take (k + 1)).filter p = (L.take k).filter p ++ if p (L.getD k du0) then [L.getD k du0] else [] := by
  rw [List.take_add_one, List.filter_append]
  congr 1
  rw [show L[k]? = some (L.getD k du0) from by simp [List.getD, h]]
  generalize L.getD k du0 = y
  simp only [Option.toList, List.filter]
  by_cases e : p y <;> simp [e]
theorem mv_take {T : Int} {L : List Du} {k : Nat} {x : Du} (h : k < L.length) (hx : L.getD k du0 = x) : mvD T (L.take (k + 1)) = if x.at' ≤ T then insG Du.at' (mvD T (L.take k)) x else mvD T (L.take k) := by
  unfold mvD
  rw [fil_take _ h, hx]
  by_cases e : x.at' ≤ T
  · rw [if_pos (by simpa using e), if_pos e, srt_snoc]
  · rw [if_neg (by simpa using e), if_neg e, List.append_nil]
theorem rs_take {T : Int} {L : List Du} {k : Nat} {x : Du} (h : k < L.length) (hx : L.getD k du0 = x) : rsD T (L.take (k + 1)) = if x.at' ≤ T then rsD T (L.take k) else rsD T (L.take k) ++ [x] := by
  unfold rsD
  rw [fil_take _ h, hx]
  by_cases e : x.at' ≤ T
  · rw [if_neg (by simp; omega), if_pos e, List.append_nil]
  · rw [if_pos (by simp; omega), if_neg e]
theorem mv_up (T : Int) (L : List Du) : (mvD T L).Pairwise (fun a b => a.at' ≤ b.at') := srtG_up List.Pairwise.nil
/-- What Move of the document's hands back. -/
def RetRm (now room T : Int) (L : List Du) (A : Option Addr) (c : Nat) (w : World) (e : Ending) (w' : World) : Prop :=
  if (0 ≤ T ∧ T ≤ 4503599627370496) ∧ now ≤ T then ∃ A' c' B cb, e = .returned (.tuple #[rwv T room A' (rsD T L).length c', .slice B (mvD T L).length cb, .int .i64 0]) ∧ Rd w' A' ((rsD T L).flatMap duc) ∧ Rd w' B ((mvD T L).flatMap duc) ∧
    (∀ a, A' = some a → w.heap.size ≤ a.block) ∧ (∀ a, B = some a → w.heap.size ≤ a.block) ∧ Below w.heap.size w w'
  else e = .returned (.tuple #[rwv now room A L.length c, .slice none 0 0, .int .i64 1]) ∧ Below w.heap.size w w'
theorem flat_drop (l : List Du) : ∀ n, (l.drop n).flatMap duc = (l.flatMap duc).drop (n * 2) := by
  induction l with
  | nil => intro n; simp
  | cons x l ih =>
    intro n
    cases n with
    | zero => simp
    | succ n =>
      rw [List.drop_succ_cons, ih, List.flatMap_cons, Nat.succ_mul, List.drop_append]
      simp [duc]
theorem splice_ins (lo : List Du) (n : Nat) (x : Du) (hn : n ≤ lo.length) : ((splice (lo.flatMap duc ++ duc x) ((n + 1) * 2) ((lo.drop n).flatMap duc)).set (n * 2) (.int .i64 x.id)).set (n * 2 + 1) (.int .i64 x.at') = (lo.take n ++ x :: lo.drop n).flatMap duc := by
  have hlen : (lo.flatMap duc ++ duc x).length = (lo.length + 1) * 2 := by rw [List.length_append, duc_len]; simp [duc]; omega
  have hd : ((lo.drop n).flatMap duc).length = (lo.length - n) * 2 := by rw [duc_len, List.length_drop]
  have ht : ((lo.take n).flatMap duc).length = n * 2 := by rw [duc_len, List.length_take]; omega
  obtain ⟨z, hz⟩ : ∃ z, (lo ++ [x]).getD n du0 = z := ⟨_, rfl⟩
  have h1 : (lo.flatMap duc ++ duc x).take ((n + 1) * 2) = (lo.take n).flatMap duc ++ duc z := by
    have e1 : lo.flatMap duc ++ duc x = (lo ++ [x]).flatMap duc := by simp
    have e2 : (lo ++ [x]).take (n + 1) = lo.take n ++ [z] := by rw [take_atN (d := du0) (by simp; omega), hz, List.take_append_of_le_length hn]
    have e3 : (lo ++ [x]).flatMap duc = ((lo ++ [x]).take (n + 1)).flatMap duc ++ ((lo ++ [x]).drop (n + 1)).flatMap duc := by rw [← List.flatMap_append, List.take_append_drop]
    rw [e1, e3, List.take_append_of_le_length (by rw [duc_len, List.length_take]; simp; omega), List.take_of_length_le (by rw [duc_len, List.length_take]; simp; omega), e2]
    simp
  unfold splice
  have h2 : (lo.flatMap duc ++ duc x).drop ((n + 1) * 2 + ((lo.drop n).flatMap duc).length) = [] := List.drop_of_length_le (by rw [hlen, hd]; omega)
  rw [h1, h2, List.append_nil, List.append_assoc, List.set_append_right _ _ (by omega), List.set_append_right _ _ (by omega), ht]
  simp [duc]
theorem natmin_r {a b : Nat} (h : b ≤ a) : Nat.min a b = b := Nat.min_eq_right h
theorem mid_cells {w : World} {g n : Nat} {lo : List Du} {r : List Value} (h : Rd w (some ⟨g, 0, none⟩) (lo.flatMap duc ++ r)) : ∀ j v, ((lo.drop n).flatMap duc)[j]? = some v → w.cell? ((⟨g, n * 2, none⟩ : Addr).add j) = some v := fun j v hj => by
  rw [flat_drop, List.getElem?_drop] at hj
  have hlt : n * 2 + j < (lo.flatMap duc).length := (List.getElem?_eq_some_iff.1 hj).1
  obtain ⟨a, ha, hc⟩ := h (n * 2 + j) v (by rw [List.getElem?_append_left hlt]; exact hj)
  cases ha
  rw [add_zero_lit, Nat.zero_add] at hc
  rw [show (⟨g, n * 2, none⟩ : Addr).add j = ⟨g, n * 2 + j, none⟩ from by unfold Addr.add; split <;> simp_all]
  exact hc
theorem own_some {w : World} {base e k n c : Nat} {A : Option Addr} {vs : List Value} (h : w.ownsRow base e k (.slice A (n + 1) c) (n + 1) vs) : ∃ g, A = some ⟨g, 0, none⟩ ∧ n + 1 ≤ c ∧ c ≤ maxLen := by
  obtain ⟨A', c', h1, h2, h3, _⟩ := own_sliceK h
  injection h1 with h1 _ h4
  subst h1 h4
  rcases h.2 with ⟨h5, _⟩ | ⟨g, cap, cur, h5, _⟩
  · cases h5
  · injection h5 with h5
    exact ⟨g, h5, h2, h3⟩
set_option maxHeartbeats 4000000 in
set_option maxRecDepth 100000 in
theorem rmove_any (now : Int) (room : Nat) (T : Int) (L : List Du) (A : Option Addr) (c : Nat) (w : World) (hl : L.length ≤ 1048576) (hr : Rd w A (L.flatMap duc)) :
    Calls Tryd.prog 47 #[rwv now room A L.length c, .int .i64 T] w (RetRm now room T L A c w) := by
  have HR := Lib.hid hr
  have f1 := Lib.hid (fun X => rtime_any T X)
  unfold RetRm rwv
  clear hr
  by_cases hT : 0 ≤ T ∧ T ≤ 4503599627370496
  · rw [decide_eq_true hT] at f1
    by_cases hn : now ≤ T
    · simp only [if_pos (show (0 ≤ T ∧ T ≤ 4503599627370496) ∧ now ≤ T from ⟨hT, hn⟩)]
      have t0 : decide (T < now) = false := by simpa using hn
      have HFm : Hid (mvD T (L.take L.length) = mvD T L ∧ rsD T (L.take L.length) = rsD T L) := Lib.hid (by rw [List.take_length]; exact ⟨rfl, rfl⟩)
      obtain ⟨fo, hfo⟩ : ∃ fo, mvD T L = fo := ⟨_, rfl⟩
      obtain ⟨fr, hfr⟩ : ∃ fr, rsD T L = fr := ⟨_, rfl⟩
      rw [hfo, hfr] at HFm ⊢
      clear hT hn hfo hfr
      go_enter Tryd.func47, Tryd.ntmps47
      go_upto_region 1 with fail
      refine name_world fun V hV => ?_
      have hb0 : V.heap[w.heap.size]? = some (.cells #[.int .i64 now, .int .i64 room, .slice A L.length c] 30 (0, 0)) := by rw [hV]; exact box_alloc (heap_alloc_new _ _) _
      have hb1 : V.heap[w.heap.size + 1]? = some (.cells #[.int .i64 0, .int .i64 0, .slice none 0 0] 30 (0, 0)) := by rw [hV]; exact heap_new_at _ (by simp)
      have HB0 := Lib.hid hb0; have HB1 := Lib.hid hb1
      have HBV : Hid (Below w.heap.size w V) := Lib.hid (by rw [hV]; exact ((Below.refl _ _).alloc (Nat.le_refl _) _).alloc (by simp) _)
      clear hV
      obtain ⟨x0, y0⟩ := box_rules hb0
      have l1 := box_lt hb1
      clear hb0 hb1
      go_upto_region 4 with (go_at_call 53; (with_reducible refine (f1.out _).mono ?_); rintro e w1 ⟨rfl, rfl⟩)
      refine name_world fun V2 hV2 => ?_
      have HC0 : Hid (V2.heap[w.heap.size]? = some (.cells #[.int .i64 T, .int .i64 room, .slice A L.length c] 30 (0, 0))) := Lib.hid (by rw [hV2]; exact box_set (i := 0) HB0.out _)
      have HC1 : Hid (V2.heap[w.heap.size + 1]? = some (.cells #[.int .i64 0, .int .i64 0, .slice none 0 0] 30 (0, 0))) := Lib.hid (by rw [hV2]; exact box_far HB1.out (Nat.succ_ne_self _) _)
      have HBW : Hid (Below w.heap.size w V2) := Lib.hid (by rw [hV2]; exact HBV.out.setCell (Nat.le_refl _) _)
      clear hV2 x0 y0 l1 f1
      obtain ⟨x0, y0⟩ := box_rules HC0.out
      go_wp2
      go_loopw [7, 8, 27] (fun o q i wr => ∃ (k : Nat) (lo lr : List Du) (P : Option Addr) (cp : Nat) (Q : Option Addr) (cq : Nat), k ≤ L.length ∧ lo.length ≤ k ∧ lr.length ≤ k ∧ i = .int .i64 k ∧ o = .slice P lo.length cp ∧ q = .slice Q lr.length cq ∧
        Hid (lo = mvD T (L.take k)) ∧ Hid (lr = rsD T (L.take k)) ∧ Hid (wr.ownsRow (w.heap.size + 2) 98 2 (.slice P lo.length cp) lo.length (lo.flatMap duc)) ∧ Hid (wr.ownsRow (w.heap.size + 2) 98 2 (.slice Q lr.length cq) lr.length (lr.flatMap duc)) ∧
        Hid (Apt (.slice P lo.length cp) (.slice Q lr.length cq)) ∧ Hid (wr.heap[w.heap.size]? = some (.cells #[.int .i64 T, .int .i64 room, .slice A L.length c] 30 (0, 0))) ∧ Hid (wr.heap[w.heap.size + 1]? = some (.cells #[.int .i64 0, .int .i64 0, .slice none 0 0] 30 (0, 0))) ∧ Hid (Below w.heap.size w wr)) (fun _ _ i _ => L.length - (intOf i).toNat)
      case atStart => exact ⟨0, [], [], none, 0, none, 0, by omega, by simp, by simp, rfl, rfl, rfl, Lib.hid rfl, Lib.hid rfl, Lib.hid (own_nilK _ _ _ _), Lib.hid (own_nilK _ _ _ _), Lib.hid (apt_nil _ _ _), HC0, HC1, HBW⟩
      case round =>
        obtain ⟨k, lo, lr, P, cp, Q, cq, hk, hlo, hlr, rfl, rfl, rfl, HE, HF, HOp, HOq, HAp, HD0, HD1, HBr⟩ := hrel
        clear HC0 HC1 HBW x0 y0
        have HL1 := Lib.hid (box_lt HD1.out)
        by_cases hlt : k < L.length
        · obtain ⟨a, x, rfl, hx, g0, g1⟩ := (HR.out.below HBr.out).duAt hlt
          have HS := Lib.hid (mv_take (T := T) hlt hx)
          have HS2 := Lib.hid (rs_take (T := T) hlt hx)
          clear hx
          obtain ⟨d0, d1⟩ := x
          dsimp only at *
          go_upto_region 8 with fail
          refine name_world fun U hU => ?_
          have hbu : Below wr.heap.size wr U := by rw [hU]; exact (Below.refl _ _).alloc (Nat.le_refl _) _
          have HX : Hid (U.heap[wr.heap.size]? = some (.cells #[.int .i64 d0, .int .i64 d1] 98 (0, 0))) := Lib.hid (by rw [hU]; exact heap_alloc_new _ _)
          have HOp' := Lib.hid (own_belowK HOp.out hbu)
          have HOq' := Lib.hid (own_belowK HOq.out hbu)
          have HC0 := Lib.hid (box_keep HD0.out hbu)
          have HC1 := Lib.hid (box_keep HD1.out hbu)
          have HBu := Lib.hid (HBr.out.trans (hbu.mono HBr.out.size))
          have lc := box_lt HC1.out
          have HNe : Hid (Value.ownBlock (.slice P lo.length cp) ≠ some wr.heap.size ∧ Value.ownBlock (.slice Q lr.length cq) ≠ some wr.heap.size) := Lib.hid ⟨fun h9 => by have := (own_blockK HOp.out h9).2.1; omega, fun h9 => by have := (own_blockK HOq.out h9).2.1; omega⟩
          clear hU hbu g0 g1 HOp HOq HD0 HD1 HBr HL1
          generalize wr.heap.size = bx at *
          obtain ⟨xx, xy⟩ := box_rules HX.out
          by_cases he : d1 ≤ T
          · rw [if_pos he] at HS HS2
            have he2 : decide (T < d1) = false := by simpa using he
            clear he
            go_upto_region 11 with fail
            have HUp : Hid (lo.Pairwise fun a b => a.at' ≤ b.at') := Lib.hid (by rw [HE.out]; exact mv_up _ _)
            go_loopw [11] (fun j wv => ∃ (n m : Nat), n ≤ lo.length ∧ j = .int .i64 n ∧ Hid (∀ y ∈ lo.drop n, d1 < y.at') ∧ wv = U.drewN m) (fun j _ => (intOf j).toNat)
            case atStart => exact ⟨lo.length, 0, Nat.le_refl _, rfl, Lib.hid (by rw [List.drop_length]; intro y hy; cases hy), rfl⟩
            case round =>
              obtain ⟨n, m, hn, rfl, HG, rfl⟩ := hrel
              obtain ⟨v, hv⟩ : ∃ v : Int, (n : Int) = v := ⟨_, rfl⟩
              rw [hv]
              have Hv := Lib.hid hv
              have hv0 : 0 ≤ v := by omega
              by_cases h0 : n = 0
              · have z0 : decide (0 < v) = false := by simp; omega
                have HLw : Hid (∀ y ∈ lo.take n, y.at' ≤ d1) := Lib.hid (by rw [h0, List.take_zero]; intro y hy; cases hy)
                clear h0 hv
                go_wp2
                go_quiet (fail)
                go_upto_region 13 with fail
                refine name_world fun W hW => ?_
                have HWp : Hid (W.ownsRow (w.heap.size + 2) 98 2 (.slice P lo.length cp) lo.length (lo.flatMap duc)) := Lib.hid (by rw [hW]; exact HOp'.out)
                have HWq : Hid (W.ownsRow (w.heap.size + 2) 98 2 (.slice Q lr.length cq) lr.length (lr.flatMap duc)) := Lib.hid (by rw [hW]; exact HOq'.out)
                have HW0 : Hid (W.heap[w.heap.size]? = some (.cells #[.int .i64 T, .int .i64 room, .slice (some a) L.length c] 30 (0, 0))) := Lib.hid (by rw [hW]; exact HC0.out)
                have HW1 : Hid (W.heap[w.heap.size + 1]? = some (.cells #[.int .i64 0, .int .i64 0, .slice none 0 0] 30 (0, 0))) := Lib.hid (by rw [hW]; exact HC1.out)
                have HWx : Hid (W.heap[bx]? = some (.cells #[.int .i64 d0, .int .i64 d1] 98 (0, 0))) := Lib.hid (by rw [hW]; exact HX.out)
                have HWB : Hid (Below w.heap.size w W) := Lib.hid (by rw [hW]; exact ⟨HBu.out.os, HBu.out.tape, HBu.out.output, HBu.out.size, HBu.out.block⟩)
                clear hW xx xy lc
                obtain ⟨xx, xy⟩ := box_rules HWx.out
                have lc := box_lt HW1.out
                have lx := box_lt HWx.out
                go_upto_region 14 with (at_builtin; go_loud (refine wp_appK rfl _ _ skc_du (by decide) rfl (own_allocK HWp.out _) rfl (by omega) (by simp; omega) W.heap.size [.int .i64 d0, .int .i64 d1] rfl rfl (fun j u hu => new_cell hu) rfl ?_); intro P4 c4 w4 ho4 hg4 hat4; have S4 := Lib.hid (grown_step HWp.out hg4); have TW := Lib.hid (two_app HWq.out HAp.out hg4 hat4); have HO4 := Lib.hid ho4; have HX4 := Lib.hid (S4.out.box HWx.out HNe.out.1); have HAt := Lib.hid hat4; clear hg4 hat4 ho4)
                obtain ⟨g4, rfl, hc4, hc5⟩ := own_some HO4.out
                obtain ⟨q1, hq1⟩ : ∃ q1 : Int, v + 1 = q1 := ⟨_, rfl⟩
                obtain ⟨r1, hr1⟩ : ∃ r1 : Nat, n + 1 = r1 := ⟨_, rfl⟩
                have Hr1 := Lib.hid hr1
                have hv := Hv.out
                have k1 : IntKind.i64.wrap q1 = q1 := IntWalk.i64_in _ (by omega)
                have k2 : (0 : Int) ≤ q1 := by omega
                have k3 : q1 ≤ (lo.length : Int) + 1 := by omega
                have k4 : q1.toNat = r1 := by omega
                have k5 : v ≤ (lo.length : Int) + 1 := by omega
                have k6 : v.toNat = n := by omega
                have HVs := Lib.hid HO4.out.1
                clear hr1 xx xy hv
                have hg6 := Hr1.out
                have HcN : Hid (((lo.drop n).flatMap duc).length = Nat.min (lo.length + 1 - n) (lo.length + 1 - r1) * 2) := Lib.hid (by rw [duc_len, List.length_drop, natmin_r (by omega)]; omega)
                have HcF : Hid (r1 * 2 + ((lo.drop n).flatMap duc).length ≤ (lo.flatMap duc ++ [Value.int .i64 d0, Value.int .i64 d1]).length) := Lib.hid (by rw [HVs.out, duc_len, List.length_drop]; omega)
                have Hc1 := Lib.hid (duc_one (lo.drop n))
                have HcP : Hid (0 < Nat.min (lo.length + 1 - n) (lo.length + 1 - r1) → (if c4 = r1 then some (⟨g4, 0, none⟩ : Addr) else some ⟨g4, r1 * 2, none⟩) = some ⟨g4, r1 * 2, none⟩ ∧ ∃ ad, (if c4 = n then some (⟨g4, 0, none⟩ : Addr) else some ⟨g4, n * 2, none⟩) = some ad ∧ ∀ j v, ((lo.drop n).flatMap duc)[j]? = some v → w4.cell? (ad.add j) = some v) := Lib.hid (fun hp => by
                  rw [natmin_r (by omega)] at hp
                  rw [if_neg (by omega), if_neg (by omega)]
                  exact ⟨rfl, _, rfl, mid_cells (own_rdK HO4.out)⟩)
                clear hg6
                go_region_law? (refine step_copyK (by rfl) (.tmp 63) (.tmp 66) 28 28 (by rfl) skc_du (if c4 = r1 then some ⟨g4, 0, none⟩ else some ⟨g4, r1 * 2, none⟩) (if c4 = n then some ⟨g4, 0, none⟩ else some ⟨g4, n * 2, none⟩) (lo.length + 1 - r1) (c4 - r1) (lo.length + 1 - n) (c4 - n) (by simp [go_sem]) (by simp [go_sem]) HO4.out (by exact ⟨rfl, rfl, rfl, rfl⟩) (r1 * 2) ((lo.drop n).flatMap duc) HcN.out HcP.out HcF.out Hc1.out ?_; intro w6 ho6 ht6; have HO6 := Lib.hid ho6; have HT6 := Lib.hid ht6; clear ho6 ht6)
                have HgX : Hid (bx ≠ g4) := Lib.hid (fun e9 => by
                  have h9 := HAt.out
                  rw [← e9] at h9
                  rcases h9 with h9 | h9
                  · exact HNe.out.1 h9.symm
                  · injection h9 with h9
                    simp at h9; omega)
                have Hg0 : Hid (w.heap.size + 2 ≤ g4) := Lib.hid (own_blockK HO4.out rfl).1
                have HX6 : Hid (w6.heap[bx]? = some (.cells #[.int .i64 d0, .int .i64 d1] 98 (0, 0))) := Lib.hid (HT6.out.box HX4.out (by simpa using HgX.out))
                have HQ6 : Hid (w6.ownsRow (w.heap.size + 2) 98 2 (.slice Q lr.length cq) lr.length (lr.flatMap duc)) := Lib.hid (own_keptK TW.out.1 (fun g hg => HT6.out.block g (own_blockK TW.out.1 hg).2.1 (by
                  intro h9
                  rw [List.mem_singleton] at h9
                  subst h9
                  exact TW.out.2 g rfl hg)))
                have H06 : Hid (w6.heap[w.heap.size]? = some (.cells #[.int .i64 T, .int .i64 room, .slice (some a) L.length c] 30 (0, 0))) := Lib.hid (HT6.out.box (S4.out.low HW0.out (by omega)) (by have := Hg0.out; simp; omega))
                have H16 : Hid (w6.heap[w.heap.size + 1]? = some (.cells #[.int .i64 0, .int .i64 0, .slice none 0 0] 30 (0, 0))) := Lib.hid (HT6.out.box (S4.out.low HW1.out (by omega)) (by have := Hg0.out; simp; omega))
                have HB6 : Hid (Below w.heap.size w w6) := Lib.hid (HT6.out.base (S4.out.below HWB.out (by omega) HWB.out.size) (by have := Hg0.out; simp; omega) (by have := S4.out.size; omega))
                obtain ⟨xx, xy⟩ := box_rules HX6.out
                obtain ⟨_, _, cur6, hg6⟩ := own_blockK HO6.out rfl
                have gz := (box_rules hg6).2
                obtain ⟨_, ea, u0⟩ := own_rdK HO6.out (n * 2) _ (List.getElem?_eq_getElem (by rw [HO6.out.1]; omega))
                cases ea
                obtain ⟨_, ea, u1⟩ := own_rdK HO6.out (n * 2 + 1) _ (List.getElem?_eq_getElem (by rw [HO6.out.1]; omega))
                cases ea
                rw [add_zero_lit, Nat.zero_add] at u0 u1
                have k7 : v < (lo.length : Int) + 1 := by have := Hv.out; omega
                clear hg6
                have HIn : Hid (insG Du.at' lo ⟨d0, d1⟩ = lo.take n ++ ⟨d0, d1⟩ :: lo.drop n) := Lib.hid (by have h9 := insG_at (f := Du.at') (x := ⟨d0, d1⟩) (p := lo.take n) (q := lo.drop n) HLw.out HG.out; rwa [List.take_append_drop] at h9)
                have HLn : Hid ((lo.take n ++ (⟨d0, d1⟩ : Du) :: lo.drop n).length = lo.length + 1) := Lib.hid (by rw [List.length_append, List.length_cons, List.length_take, List.length_drop]; omega)
                have hq0 : (⟨g4, n * 2, none⟩ : Addr).block = g4 := rfl
                go_wp2
                refine ⟨⟨k + 1, lo.take n ++ ⟨d0, d1⟩ :: lo.drop n, lr, some ⟨g4, 0, none⟩, c4, Q, cq, hlt, by rw [HLn.out]; omega, by omega, by go_num, by rw [HLn.out], rfl, Lib.hid ?_, Lib.hid ?_, Lib.hid ?_, Lib.hid ?_, Lib.hid ?_, Lib.hid ?_, Lib.hid ?_, Lib.hid ?_⟩, ?_⟩
                · rw [HS.out, ← HE.out, HIn.out]
                · rw [HS2.out, HF.out]
                · rw [HLn.out, ← splice_ins lo n ⟨d0, d1⟩ hn]
                  have h9 := HO6.out
                  rw [← Hr1.out] at h9
                  exact own_cell (own_cell h9 _ _) _ _
                · exact own_setK (own_setK HQ6.out (p := ⟨g4, n * 2, none⟩) (fun h9 => TW.out.2 g4 rfl h9) _) (p := ⟨g4, n * 2 + 1, none⟩) (fun h9 => TW.out.2 g4 rfl h9) _
                · rw [HLn.out]; exact TW.out.2
                · exact box_far (box_far H06.out (p := ⟨g4, n * 2, none⟩) (show w.heap.size ≠ g4 by have := Hg0.out; omega) _) (p := ⟨g4, n * 2 + 1, none⟩) (show w.heap.size ≠ g4 by have := Hg0.out; omega) _
                · exact box_far (box_far H16.out (p := ⟨g4, n * 2, none⟩) (show w.heap.size + 1 ≠ g4 by have := Hg0.out; omega) _) (p := ⟨g4, n * 2 + 1, none⟩) (show w.heap.size + 1 ≠ g4 by have := Hg0.out; omega) _
                · exact (HB6.out.setCell (p := ⟨g4, n * 2, none⟩) (show w.heap.size ≤ g4 by have := Hg0.out; omega) _).setCell (p := ⟨g4, n * 2 + 1, none⟩) (show w.heap.size ≤ g4 by have := Hg0.out; omega) _
                · simp [intOf]; omega
              · obtain ⟨n', hn'⟩ : ∃ n', n = n' + 1 := ⟨n - 1, by omega⟩
                obtain ⟨a', y, ha', hy, q0, q1⟩ := (own_rdK HOp'.out).duAt (k := n') (by omega)
                have hdr := drop_atN (d := du0) (show n' < lo.length by omega)
                rw [hy] at hdr
                have z0 : decide (0 < v) = true := by simp; omega
                have z1 : IntKind.i64.wrap (v - 1) = (n' : Int) := by rw [IntWalk.i64_in _ (by omega)]; omega
                have z2 : v - 1 = (n' : Int) := by omega
                have z3 : (0 : Int) ≤ (n' : Int) := by omega
                have z4 : (n' : Int) < (lo.length : Int) := by omega
                by_cases hy2 : d1 < y.at'
                · have z5 : decide (d1 < y.at') = true := by simpa using hy2
                  have HN : Hid (∀ y ∈ lo.drop n', d1 < y.at') := Lib.hid (by
                    rw [hdr]
                    intro z hz
                    rcases List.mem_cons.1 hz with rfl | hz
                    · exact hy2
                    · exact HG.out z (by rw [hn']; exact hz))
                  clear hdr hy hy2 h0 hv
                  subst ha'
                  go_wp2
                  go_quiet (fail)
                  go_wp2
                  refine ⟨⟨n', _, by omega, by go_num, HN, rfl⟩, ?_⟩
                  have := Hv.out
                  simp [intOf]; omega
                · have z5 : decide (d1 < y.at') = false := by simpa using hy2
                  have HLw : Hid (∀ z ∈ lo.take n, z.at' ≤ d1) := Lib.hid (by
                    rw [hn', take_atN (d := du0) (show n' < lo.length by omega), hy]
                    intro z hz
                    have hsz := HUp.out
                    rw [← List.take_append_drop n' lo, List.pairwise_append] at hsz
                    rcases List.mem_append.1 hz with hz | hz
                    · have h8 := hsz.2.2 z hz y (by rw [hdr]; exact List.mem_cons_self ..)
                      omega
                    · rw [List.mem_singleton] at hz
                      subst hz; omega)
                  clear hdr hy hy2 h0 hv hn'
                  subst ha'
                  go_wp2
                  go_quiet (fail)
                  go_upto_region 13 with fail
                  refine name_world fun W hW => ?_
                  have HWp : Hid (W.ownsRow (w.heap.size + 2) 98 2 (.slice (some a') lo.length cp) lo.length (lo.flatMap duc)) := Lib.hid (by rw [hW]; exact HOp'.out)
                  have HWq : Hid (W.ownsRow (w.heap.size + 2) 98 2 (.slice Q lr.length cq) lr.length (lr.flatMap duc)) := Lib.hid (by rw [hW]; exact HOq'.out)
                  have HW0 : Hid (W.heap[w.heap.size]? = some (.cells #[.int .i64 T, .int .i64 room, .slice (some a) L.length c] 30 (0, 0))) := Lib.hid (by rw [hW]; exact HC0.out)
                  have HW1 : Hid (W.heap[w.heap.size + 1]? = some (.cells #[.int .i64 0, .int .i64 0, .slice none 0 0] 30 (0, 0))) := Lib.hid (by rw [hW]; exact HC1.out)
                  have HWx : Hid (W.heap[bx]? = some (.cells #[.int .i64 d0, .int .i64 d1] 98 (0, 0))) := Lib.hid (by rw [hW]; exact HX.out)
                  have HWB : Hid (Below w.heap.size w W) := Lib.hid (by rw [hW]; exact ⟨HBu.out.os, HBu.out.tape, HBu.out.output, HBu.out.size, HBu.out.block⟩)
                  clear hW xx xy lc
                  obtain ⟨xx, xy⟩ := box_rules HWx.out
                  have lc := box_lt HW1.out
                  have lx := box_lt HWx.out
                  go_upto_region 14 with (at_builtin; go_loud (refine wp_appK rfl _ _ skc_du (by decide) rfl (own_allocK HWp.out _) rfl (by omega) (by simp; omega) W.heap.size [.int .i64 d0, .int .i64 d1] rfl rfl (fun j u hu => new_cell hu) rfl ?_); intro P4 c4 w4 ho4 hg4 hat4; have S4 := Lib.hid (grown_step HWp.out hg4); have TW := Lib.hid (two_app HWq.out HAp.out hg4 hat4); have HO4 := Lib.hid ho4; have HX4 := Lib.hid (S4.out.box HWx.out HNe.out.1); have HAt := Lib.hid hat4; clear hg4 hat4 ho4)
                  obtain ⟨g4, rfl, hc4, hc5⟩ := own_some HO4.out
                  obtain ⟨q1, hq1⟩ : ∃ q1 : Int, v + 1 = q1 := ⟨_, rfl⟩
                  obtain ⟨r1, hr1⟩ : ∃ r1 : Nat, n + 1 = r1 := ⟨_, rfl⟩
                  have Hr1 := Lib.hid hr1
                  have hv := Hv.out
                  have k1 : IntKind.i64.wrap q1 = q1 := IntWalk.i64_in _ (by omega)
                  have k2 : (0 : Int) ≤ q1 := by omega
                  have k3 : q1 ≤ (lo.length : Int) + 1 := by omega
                  have k4 : q1.toNat = r1 := by omega
                  have k5 : v ≤ (lo.length : Int) + 1 := by omega
                  have k6 : v.toNat = n := by omega
                  have HVs := Lib.hid HO4.out.1
                  clear hr1 xx xy hv
                  have hg6 := Hr1.out
                  have HcN : Hid (((lo.drop n).flatMap duc).length = Nat.min (lo.length + 1 - n) (lo.length + 1 - r1) * 2) := Lib.hid (by rw [duc_len, List.length_drop, natmin_r (by omega)]; omega)
                  have HcF : Hid (r1 * 2 + ((lo.drop n).flatMap duc).length ≤ (lo.flatMap duc ++ [Value.int .i64 d0, Value.int .i64 d1]).length) := Lib.hid (by rw [HVs.out, duc_len, List.length_drop]; omega)
                  have Hc1 := Lib.hid (duc_one (lo.drop n))
                  have HcP : Hid (0 < Nat.min (lo.length + 1 - n) (lo.length + 1 - r1) → (if c4 = r1 then some (⟨g4, 0, none⟩ : Addr) else some ⟨g4, r1 * 2, none⟩) = some ⟨g4, r1 * 2, none⟩ ∧ ∃ ad, (if c4 = n then some (⟨g4, 0, none⟩ : Addr) else some ⟨g4, n * 2, none⟩) = some ad ∧ ∀ j v, ((lo.drop n).flatMap duc)[j]? = some v → w4.cell? (ad.add j) = some v) := Lib.hid (fun hp => by
                    rw [natmin_r (by omega)] at hp
                    rw [if_neg (by omega), if_neg (by omega)]
                    exact ⟨rfl, _, rfl, mid_cells (own_rdK HO4.out)⟩)
                  clear hg6
                  go_region_law? (refine step_copyK (by rfl) (.tmp 63) (.tmp 66) 28 28 (by rfl) skc_du (if c4 = r1 then some ⟨g4, 0, none⟩ else some ⟨g4, r1 * 2, none⟩) (if c4 = n then some ⟨g4, 0, none⟩ else some ⟨g4, n * 2, none⟩) (lo.length + 1 - r1) (c4 - r1) (lo.length + 1 - n) (c4 - n) (by simp [go_sem]) (by simp [go_sem]) HO4.out (by exact ⟨rfl, rfl, rfl, rfl⟩) (r1 * 2) ((lo.drop n).flatMap duc) HcN.out HcP.out HcF.out Hc1.out ?_; intro w6 ho6 ht6; have HO6 := Lib.hid ho6; have HT6 := Lib.hid ht6; clear ho6 ht6)
                  have HgX : Hid (bx ≠ g4) := Lib.hid (fun e9 => by
                    have h9 := HAt.out
                    rw [← e9] at h9
                    rcases h9 with h9 | h9
                    · exact HNe.out.1 h9.symm
                    · injection h9 with h9
                      simp at h9; omega)
                  have Hg0 : Hid (w.heap.size + 2 ≤ g4) := Lib.hid (own_blockK HO4.out rfl).1
                  have HX6 : Hid (w6.heap[bx]? = some (.cells #[.int .i64 d0, .int .i64 d1] 98 (0, 0))) := Lib.hid (HT6.out.box HX4.out (by simpa using HgX.out))
                  have HQ6 : Hid (w6.ownsRow (w.heap.size + 2) 98 2 (.slice Q lr.length cq) lr.length (lr.flatMap duc)) := Lib.hid (own_keptK TW.out.1 (fun g hg => HT6.out.block g (own_blockK TW.out.1 hg).2.1 (by
                    intro h9
                    rw [List.mem_singleton] at h9
                    subst h9
                    exact TW.out.2 g rfl hg)))
                  have H06 : Hid (w6.heap[w.heap.size]? = some (.cells #[.int .i64 T, .int .i64 room, .slice (some a) L.length c] 30 (0, 0))) := Lib.hid (HT6.out.box (S4.out.low HW0.out (by omega)) (by have := Hg0.out; simp; omega))
                  have H16 : Hid (w6.heap[w.heap.size + 1]? = some (.cells #[.int .i64 0, .int .i64 0, .slice none 0 0] 30 (0, 0))) := Lib.hid (HT6.out.box (S4.out.low HW1.out (by omega)) (by have := Hg0.out; simp; omega))
                  have HB6 : Hid (Below w.heap.size w w6) := Lib.hid (HT6.out.base (S4.out.below HWB.out (by omega) HWB.out.size) (by have := Hg0.out; simp; omega) (by have := S4.out.size; omega))
                  obtain ⟨xx, xy⟩ := box_rules HX6.out
                  obtain ⟨_, _, cur6, hg6⟩ := own_blockK HO6.out rfl
                  have gz := (box_rules hg6).2
                  obtain ⟨_, ea, u0⟩ := own_rdK HO6.out (n * 2) _ (List.getElem?_eq_getElem (by rw [HO6.out.1]; omega))
                  cases ea
                  obtain ⟨_, ea, u1⟩ := own_rdK HO6.out (n * 2 + 1) _ (List.getElem?_eq_getElem (by rw [HO6.out.1]; omega))
                  cases ea
                  rw [add_zero_lit, Nat.zero_add] at u0 u1
                  have k7 : v < (lo.length : Int) + 1 := by have := Hv.out; omega
                  clear hg6
                  have HIn : Hid (insG Du.at' lo ⟨d0, d1⟩ = lo.take n ++ ⟨d0, d1⟩ :: lo.drop n) := Lib.hid (by have h9 := insG_at (f := Du.at') (x := ⟨d0, d1⟩) (p := lo.take n) (q := lo.drop n) HLw.out HG.out; rwa [List.take_append_drop] at h9)
                  have HLn : Hid ((lo.take n ++ (⟨d0, d1⟩ : Du) :: lo.drop n).length = lo.length + 1) := Lib.hid (by rw [List.length_append, List.length_cons, List.length_take, List.length_drop]; omega)
                  have hq0 : (⟨g4, n * 2, none⟩ : Addr).block = g4 := rfl
                  go_wp2
                  refine ⟨⟨k + 1, lo.take n ++ ⟨d0, d1⟩ :: lo.drop n, lr, some ⟨g4, 0, none⟩, c4, Q, cq, hlt, by rw [HLn.out]; omega, by omega, by go_num, by rw [HLn.out], rfl, Lib.hid ?_, Lib.hid ?_, Lib.hid ?_, Lib.hid ?_, Lib.hid ?_, Lib.hid ?_, Lib.hid ?_, Lib.hid ?_⟩, ?_⟩
                  · rw [HS.out, ← HE.out, HIn.out]
                  · rw [HS2.out, HF.out]
                  · rw [HLn.out, ← splice_ins lo n ⟨d0, d1⟩ hn]
                    have h9 := HO6.out
                    rw [← Hr1.out] at h9
                    exact own_cell (own_cell h9 _ _) _ _
                  · exact own_setK (own_setK HQ6.out (p := ⟨g4, n * 2, none⟩) (fun h9 => TW.out.2 g4 rfl h9) _) (p := ⟨g4, n * 2 + 1, none⟩) (fun h9 => TW.out.2 g4 rfl h9) _
                  · rw [HLn.out]; exact TW.out.2
                  · exact box_far (box_far H06.out (p := ⟨g4, n * 2, none⟩) (show w.heap.size ≠ g4 by have := Hg0.out; omega) _) (p := ⟨g4, n * 2 + 1, none⟩) (show w.heap.size ≠ g4 by have := Hg0.out; omega) _
                  · exact box_far (box_far H16.out (p := ⟨g4, n * 2, none⟩) (show w.heap.size + 1 ≠ g4 by have := Hg0.out; omega) _) (p := ⟨g4, n * 2 + 1, none⟩) (show w.heap.size + 1 ≠ g4 by have := Hg0.out; omega) _
                  · exact (HB6.out.setCell (p := ⟨g4, n * 2, none⟩) (show w.heap.size ≤ g4 by have := Hg0.out; omega) _).setCell (p := ⟨g4, n * 2 + 1, none⟩) (show w.heap.size ≤ g4 by have := Hg0.out; omega) _
                  · simp [intOf]; omega
          · rw [if_neg he] at HS HS2
            have he2 : decide (T < d1) = true := by simp; omega
            have HE3 : Hid (lo = mvD T (L.take (k + 1))) := Lib.hid (by rw [HS.out, HE.out])
            have HF3 : Hid (lr ++ [⟨d0, d1⟩] = rsD T (L.take (k + 1))) := Lib.hid (by rw [HS2.out, HF.out])
            clear HS HS2 HE HF he
            go_wp2_with (at_builtin; go_loud (refine wp_appK rfl _ _ skc_du (by decide) rfl (own_allocK HOq'.out _) rfl (by omega) (by simp; omega) U.heap.size [.int .i64 d0, .int .i64 d1] rfl rfl (fun j u hu => new_cell hu) rfl ?_); intro Q4 c4 w4 ho4 hg4 hat4; have S4 := Lib.hid (grown_step HOq'.out hg4); have TW := Lib.hid (two_app HOp'.out HAp.out.symm hg4 hat4))
            refine ⟨⟨k + 1, lo, lr ++ [⟨d0, d1⟩], P, cp, Q4, c4, hlt, by omega, by rw [List.length_append]; show lr.length + 1 ≤ _; omega, by go_num, rfl, by rw [List.length_append]; rfl, HE3, HF3, Lib.hid TW.out.1, Lib.hid ?_, Lib.hid ?_, Lib.hid (S4.out.low HC0.out (by omega)), Lib.hid (S4.out.low HC1.out (by omega)), Lib.hid (S4.out.below HBu.out (by omega) HBu.out.size)⟩, ?_⟩
            · rw [List.length_append, List.flatMap_append]; exact ho4
            · rw [List.length_append]; exact TW.out.2.symm
            · simp [intOf]; omega
        · obtain rfl : k = L.length := by omega
          have HEo : Hid (lo = fo) := Lib.hid (by rw [HE.out, HFm.out.1])
          have HEr : Hid (lr = fr) := Lib.hid (by rw [HF.out, HFm.out.2])
          obtain ⟨x0, y0⟩ := box_rules HD0.out
          have l0 := box_lt HD0.out
          clear hlt HE HF HFm HAp
          go_upto_region 18 with fail
          refine name_world fun U hU => ?_
          have HU0 : Hid (U.heap[w.heap.size]? = some (.cells #[.int .i64 T, .int .i64 room, .slice Q lr.length cq] 30 (0, 0))) := Lib.hid (by rw [hU]; exact box_set (i := 2) HD0.out _)
          have HU1 : Hid (U.heap[w.heap.size + 1]? = some (.cells #[.int .i64 0, .int .i64 0, .slice none 0 0] 30 (0, 0))) := Lib.hid (by rw [hU]; exact box_far HD1.out (Nat.succ_ne_self _) _)
          have HUp : Hid (U.ownsRow (w.heap.size + 2) 98 2 (.slice P lo.length cp) lo.length (fo.flatMap duc)) := Lib.hid (by rw [hU, ← HEo.out]; exact own_setK HOp.out (own_low HOp.out (show w.heap.size < w.heap.size + 2 by omega)) _)
          have HUq : Hid (U.ownsRow (w.heap.size + 2) 98 2 (.slice Q lr.length cq) lr.length (fr.flatMap duc)) := Lib.hid (by rw [hU, ← HEr.out]; exact own_setK HOq.out (own_low HOq.out (show w.heap.size < w.heap.size + 2 by omega)) _)
          have HUB : Hid (Below w.heap.size w U) := Lib.hid (by rw [hU]; exact HBr.out.setCell (Nat.le_refl _) _)
          clear hU x0 y0 HOp HOq HD0 HD1 HBr HL1 l0
          obtain ⟨x0, y0⟩ := box_rules HU0.out
          obtain ⟨x1, y1⟩ := box_rules HU1.out
          have l1 := box_lt HU1.out
          go_wp2
          refine name_post fun V4 hV4 => ?_
          have HB4 : Hid (Below w.heap.size w V4) := Lib.hid (by rw [hV4]; exact ((HUB.out.setCell (p := ⟨w.heap.size + 1, 0, none⟩) (Nat.le_succ _) _).setCell (p := ⟨w.heap.size + 1, 1, none⟩) (Nat.le_succ _) _).setCell (p := ⟨w.heap.size + 1, 2, none⟩) (Nat.le_succ _) _)
          have hE4 : V4.heap[w.heap.size + 1]? = some (.cells #[.int .i64 T, .int .i64 room, .slice Q lr.length cq] 30 (0, 0)) := by rw [hV4]; exact box_set (i := 2) (box_set (i := 1) (box_set (i := 0) HU1.out _) _) _
          have HRp : Hid (Rd V4 P (fo.flatMap duc)) := Lib.hid (by
            rw [hV4]
            exact own_rdK (own_setK (own_setK (own_setK HUp.out (own_low HUp.out (Nat.lt_succ_self _)) _) (own_low HUp.out (Nat.lt_succ_self _)) _) (own_low HUp.out (Nat.lt_succ_self _)) _))
          have HRq : Hid (Rd V4 Q (fr.flatMap duc)) := Lib.hid (by
            rw [hV4]
            exact own_rdK (own_setK (own_setK (own_setK HUq.out (own_low HUq.out (Nat.lt_succ_self _)) _) (own_low HUq.out (Nat.lt_succ_self _)) _) (own_low HUq.out (Nat.lt_succ_self _)) _))
          obtain ⟨vx, vy⟩ := box_rules hE4
          clear hV4
          refine bodyPost_ret (v := .tuple #[.agg #[.int .i64 T, .int .i64 room, .slice Q lr.length cq], .slice P lo.length cp, .int .i64 0]) (by simp [results, Tryd.f47, go_sem, vx]) rfl ?_
          exact ⟨Q, cq, P, cp, by rw [HEr.out, HEo.out], HRq.out, HRp.out, fun b hb => (by subst hb; exact Nat.le_trans (Nat.le_add_right _ 2) (own_blockK HUq.out rfl).1), fun b hb => (by subst hb; exact Nat.le_trans (Nat.le_add_right _ 2) (own_blockK HUp.out rfl).1), HB4.out⟩
    · simp only [if_neg (show ¬ ((0 ≤ T ∧ T ≤ 4503599627370496) ∧ now ≤ T) from fun h => hn h.2)]
      have t0 : decide (T < now) = true := by simp; omega
      clear hT hn
      go_enter Tryd.func47, Tryd.ntmps47
      go_upto_region 1 with fail
      refine name_world fun V hV => ?_
      have hb0 : V.heap[w.heap.size]? = some (.cells #[.int .i64 now, .int .i64 room, .slice A L.length c] 30 (0, 0)) := by rw [hV]; exact box_alloc (heap_alloc_new _ _) _
      have hb1 : V.heap[w.heap.size + 1]? = some (.cells #[.int .i64 0, .int .i64 0, .slice none 0 0] 30 (0, 0)) := by rw [hV]; exact heap_new_at _ (by simp)
      have HB1 := Lib.hid hb1
      have HBV : Hid (Below w.heap.size w V) := Lib.hid (by rw [hV]; exact ((Below.refl _ _).alloc (Nat.le_refl _) _).alloc (by simp) _)
      clear hV
      obtain ⟨x0, y0⟩ := box_rules hb0
      obtain ⟨x1, y1⟩ := box_rules hb1
      have l1 := box_lt hb1
      clear hb0 hb1
      go_upto_region 2 with (go_at_call 53; (with_reducible refine (f1.out _).mono ?_); rintro e w1 ⟨rfl, rfl⟩)
      go_wp2
      refine name_post fun V4 hV4 => ?_
      have HB4 : Hid (Below w.heap.size w V4) := Lib.hid (by rw [hV4]; exact ((HBV.out.setCell (p := ⟨w.heap.size + 1, 0, none⟩) (Nat.le_succ _) _).setCell (p := ⟨w.heap.size + 1, 1, none⟩) (Nat.le_succ _) _).setCell (p := ⟨w.heap.size + 1, 2, none⟩) (Nat.le_succ _) _)
      have hE4 : V4.heap[w.heap.size + 1]? = some (.cells #[.int .i64 now, .int .i64 room, .slice A L.length c] 30 (0, 0)) := by rw [hV4]; exact box_set (i := 2) (box_set (i := 1) (box_set (i := 0) HB1.out _) _) _
      obtain ⟨vx, vy⟩ := box_rules hE4
      clear hV4
      refine bodyPost_ret (v := .tuple #[.agg #[.int .i64 now, .int .i64 room, .slice A L.length c], .slice none 0 0, .int .i64 1]) (by simp [results, Tryd.f47, go_sem, vx]) rfl ?_
      exact ⟨rfl, HB4.out⟩
  · simp only [if_neg (show ¬ ((0 ≤ T ∧ T ≤ 4503599627370496) ∧ now ≤ T) from fun h => hT h.1)]
    rw [decide_eq_false hT] at f1
    clear hT
    go_enter Tryd.func47, Tryd.ntmps47
    go_upto_region 1 with fail
    refine name_world fun V hV => ?_
    have hb0 : V.heap[w.heap.size]? = some (.cells #[.int .i64 now, .int .i64 room, .slice A L.length c] 30 (0, 0)) := by rw [hV]; exact box_alloc (heap_alloc_new _ _) _
    have hb1 : V.heap[w.heap.size + 1]? = some (.cells #[.int .i64 0, .int .i64 0, .slice none 0 0] 30 (0, 0)) := by rw [hV]; exact heap_new_at _ (by simp)
    have HB1 := Lib.hid hb1
    have HBV : Hid (Below w.heap.size w V) := Lib.hid (by rw [hV]; exact ((Below.refl _ _).alloc (Nat.le_refl _) _).alloc (by simp) _)
    clear hV
    obtain ⟨x0, y0⟩ := box_rules hb0
    obtain ⟨x1, y1⟩ := box_rules hb1
    have l1 := box_lt hb1
    clear hb0 hb1
    go_upto_region 2 with (go_at_call 53; (with_reducible refine (f1.out _).mono ?_); rintro e w1 ⟨rfl, rfl⟩)
    go_wp2
    refine name_post fun V4 hV4 => ?_
    have HB4 : Hid (Below w.heap.size w V4) := Lib.hid (by rw [hV4]; exact ((HBV.out.setCell (p := ⟨w.heap.size + 1, 0, none⟩) (Nat.le_succ _) _).setCell (p := ⟨w.heap.size + 1, 1, none⟩) (Nat.le_succ _) _).setCell (p := ⟨w.heap.size + 1, 2, none⟩) (Nat.le_succ _) _)
    have hE4 : V4.heap[w.heap.size + 1]? = some (.cells #[.int .i64 now, .int .i64 room, .slice A L.length c] 30 (0, 0)) := by rw [hV4]; exact box_set (i := 2) (box_set (i := 1) (box_set (i := 0) HB1.out _) _) _
    obtain ⟨vx, vy⟩ := box_rules hE4
    clear hV4
    refine bodyPost_ret (v := .tuple #[.agg #[.int .i64 now, .int .i64 room, .slice A L.length c], .slice none 0 0, .int .i64 1]) (by simp [results, Tryd.f47, go_sem, vx]) rfl ?_
    exact ⟨rfl, HB4.out⟩
end Go.Proofs.YtiblpnadninmbaaDoor

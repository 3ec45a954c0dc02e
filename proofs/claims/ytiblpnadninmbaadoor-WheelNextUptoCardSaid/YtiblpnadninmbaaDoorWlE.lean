/- Package vergelaw08: the walk of WheelNext. Conditions: a list that reads, the de Bruijn table. -/
import Derived.Test.YtiblpnadninmbaaDoorWlD
import Derived.Test.YtiblpnadninmbaaDoorWlC
namespace Go.Proofs.YtiblpnadninmbaaDoor
open Go.RowKit Go.Shelf
attribute [local go_sem] Oper.semAt_some
/-- A move ahead of the next one. -/
theorem mv_ahead (f : WhF) (room : Nat) (now : Int) (L : List Du) (tn : Nat) (w : World) (T : Int) (h : Whl w f room now L tn) (hT : Tab w) (hg : 0 ∉ f.l) (h1 : now ≤ T) (h2 : T < minD 4503599627370496 L) :
    Calls Tryd.prog 48 #[.pointer (some ⟨f.pw, 0, none⟩), .int .i64 T] w fun e w' => ∃ A c, e = .returned (.tuple #[.slice A 0 c, .int .i64 0]) ∧ Whl w' f room T L tn ∧ Tn f.l w w' := by
  have hm := minD_le L 4503599627370496
  obtain ⟨e1, e2⟩ := mv_none1 h2
  refine (whl_move f room now L tn w T h hT hg).mono fun e w' hr => ?_
  unfold RetMv at hr
  rw [if_pos ⟨h1, by omega⟩, e1, e2] at hr
  obtain ⟨A, c, q1, _, _, q2, q3⟩ := hr
  exact ⟨A, c, q1, q2, q3⟩
/-- A move to the next one, or beyond. -/
theorem mv_to (f : WhF) (room : Nat) (now : Int) (L : List Du) (tn : Nat) (w : World) (T : Int) (h : Whl w f room now L tn) (hT : Tab w) (hg : 0 ∉ f.l) (h1 : now ≤ T) (h2 : T ≤ 4503599627370496) (h3 : minD 4503599627370496 L ≤ T) (hne : L ≠ []) :
    Calls Tryd.prog 48 #[.pointer (some ⟨f.pw, 0, none⟩), .int .i64 T] w fun e w' => ∃ (a : Addr) (n c : Nat) (L' : List Du), e = .returned (.tuple #[.slice (some a) (n + 1) c, .int .i64 0]) ∧ w'.cell? ⟨a.block, a.off + 1, none⟩ = some (.int .i64 (minD 4503599627370496 L)) ∧ n + 1 ≤ L.length ∧ Whl w' f room T L' tn ∧ L'.length + 1 ≤ L.length ∧ Tn f.l w w' := by
  obtain ⟨e1, e2, e3⟩ := mv_some1 h.at0 hne h3
  have e4 := mv_len T L
  refine (whl_move f room now L tn w T h hT hg).mono fun e w' hr => ?_
  unfold RetMv at hr
  rw [if_pos ⟨h1, h2⟩] at hr
  obtain ⟨A, c, q1, q2, _, q4, q5⟩ := hr
  obtain ⟨n, hn⟩ : ∃ n, (mvD T L).length = n + 1 := ⟨(mvD T L).length - 1, by omega⟩
  obtain ⟨a, x, rfl, hx, g0, g1⟩ := q2.duAt e1
  rw [hx] at e2
  rw [e2, show a.add (0 * 2) = a from by unfold Addr.add; simp] at g1
  rw [hn] at q1
  exact ⟨a, n, c, rsD T L, q1, g1, by omega, q4, e3, q5⟩
set_option maxHeartbeats 4000000 in
set_option maxRecDepth 100000 in
theorem wheelNext_any (now room : Int) (l : List Du) (A : Option Addr) (c : Nat) (w : World) (_ : l.length ≤ 1048576) (hr : Rd w A (l.flatMap duc)) (hid : ∀ x ∈ l, I64N x.id) (hT : Tab w) :
    Calls Tryd.prog 9 #[.int .i64 now, .int .i64 room, .slice A l.length c] w fun e w' => e = .returned (.bool true) ∧ Below w.heap.size w w' := by
  have HR := Lib.hid hr; have HI := Lib.hid hid; have HT := Lib.hid hT
  have Hlt := Lib.hid hT.lt
  have f1 := Lib.hid (lives08_any w hT)
  by_cases hg : (0 ≤ now ∧ now ≤ 4503599627370496 ∧ 1 ≤ room ∧ room ≤ 4096) ∧ l.length ≤ 200
  · obtain ⟨⟨h0, h1, h2, h3⟩, h4⟩ := hg
    obtain ⟨r, rfl⟩ : ∃ r : Nat, room = r := ⟨room.toNat, by omega⟩
    have f2 := Lib.hid (fun X (hX : Below w.heap.size w X) => filled_ok now r l A c X h4 (hr.below hX) hid h0 h1 (by omega) (by omega))
    unfold RetFi at f2
    have HN0 := Lib.hid h0
    clear hr hid hT h0 h1 h2 h3
    go_enter Tryd.func9, Tryd.ntmps9
    go_upto_region 3 with (go_at_call 39; (with_reducible refine f1.out.mono ?_); rintro e w1 ⟨rfl, hb1⟩; have HB1 := Lib.hid hb1; clear hb1)
    go_upto_region 4 with (go_at_call 52; (with_reducible refine (f2.out _ HB1.out).mono ?_); rintro e w2 ⟨f, rfl, hf2, hw2, hb2⟩; have HF := Lib.hid hf2; have HWf := Lib.hid hw2; have HB2 := Lib.hid (HB1.out.trans (hb2.mono HB1.out.size)); have HS1 := Lib.hid HB1.out.size; clear hf2 hw2 hb2 HB1)
    have HGt : Hid (0 ∉ f.l) := Lib.hid (fun hm => by have h8 := HF.out _ hm; have h7 := HS1.out; have h9 := Hlt.out; omega)
    have HTw : Hid (Tab w2) := Lib.hid (HT.out.below HB2.out Hlt.out)
    have HFB : Hid (∀ b ∈ f.l, w.heap.size ≤ b) := Lib.hid (fun b hb => Nat.le_trans HS1.out (HF.out b hb))
    have HLn : Hid ((filL r l).length ≤ l.length) := Lib.hid (fil_len r l)
    have fe : Hid (∀ X, Hid (Whl X f r now [] l.length) → True) := Lib.hid (fun _ _ => trivial)
    clear f1 f2 HR HI fe
    go_wp2
    go_loopw [27] (fun i wr => ∃ (k : Nat) (now' : Int) (L' : List Du), i = .int .i64 k ∧ k ≤ l.length + 1 ∧ L'.length + k ≤ l.length ∧ Hid (Whl wr f r now' L' l.length) ∧ Hid (Tn f.l w2 wr)) (fun i _ => l.length + 1 - (intOf i).toNat)
    case atStart => exact ⟨0, now, filL r l, rfl, by omega, HLn.out, HWf, Lib.hid (Tn.refl _ _)⟩
    case round =>
      obtain ⟨k, now', L', rfl, hk, hLk, HWj, HTj⟩ := hrel
      have HTb : Hid (Tab wr) := Lib.hid (HTw.out.tn HTj.out HGt.out)
      have hlt : k < l.length + 1 := by omega
      by_cases hne : L' = []
      · have f3 := Lib.hid (whl_next f r now' L' l.length wr HWj.out HTb.out)
        have f4 := Lib.hid (fun X (hX : Whl X f r now' L' l.length) => whl_len f r now' L' l.length X hX)
        rw [if_pos hne] at f3
        subst hne
        have e0 : (([] : List Du).length : Nat) = 0 := rfl
        rw [e0] at f4
        simp only [decide_true, Bool.not_true] at f3
        go_upto_region 9 with (go_at_call 27; (with_reducible refine f3.out.mono ?_); rintro e w3 ⟨rfl, hb3⟩; have HW3 := Lib.hid (HWj.out.below hb3); have HT3 := Lib.hid (HTj.out.below hb3); clear hb3)
        go_wp2_with (go_at_call 29; (with_reducible refine (f4.out _ HW3.out).mono ?_); rintro e w4 ⟨rfl, rfl⟩)
        go_ret
        exact ⟨rfl, HT3.out.base HB2.out HFB.out HB2.out.size⟩
      · obtain ⟨n, hn⟩ : ∃ n, minD 4503599627370496 L' = n := ⟨_, rfl⟩
        have f3 := Lib.hid (fun X now1 (hX : Whl X f r now1 L' l.length) (hT : Tab X) => whl_next f r now1 L' l.length X hX hT)
        rw [if_neg hne, hn] at f3
        simp only [hne, decide_false, Bool.not_false] at f3
        have f4 := Lib.hid (fun X now1 (hX : Whl X f r now1 L' l.length) => whl_now f r now1 L' l.length X hX)
        have HN := Lib.hid hn
        have hn0 : 0 ≤ n ∧ n ≤ 4503599627370496 := by rw [← hn]; exact min_ge HWj.out.at0
        have f5 := Lib.hid (fun X now1 T (hX : Whl X f r now1 L' l.length) (hT : Tab X) (h1 : now1 ≤ T) (h2 : T < n) => mv_ahead f r now1 L' l.length X T hX hT HGt.out h1 (by rw [hn]; exact h2))
        have f6 := Lib.hid (fun X now1 T (hX : Whl X f r now1 L' l.length) (hT : Tab X) (h1 : now1 ≤ T) (h2 : T ≤ 4503599627370496) (h3 : n ≤ T) => mv_to f r now1 L' l.length X T hX hT HGt.out h1 h2 (by rw [hn]; exact h3) hne)
        rw [hn] at f6
        have hnow := HWj.out.n0
        have Hnow : 0 ≤ now' ∧ now' ≤ 4503599627370496 := ⟨hnow.1, hnow.2.1⟩
        clear hn hne hnow
        go_upto_region 9 with (go_at_call 27; (with_reducible refine (f3.out wr now' HWj.out HTb.out).mono ?_); rintro e w3 ⟨rfl, hb3⟩; have HW3 := Lib.hid (HWj.out.below hb3); have HT3 := Lib.hid (HTj.out.below hb3); have HS3 := Lib.hid (HTb.out.below hb3 HTb.out.lt); clear hb3)
        by_cases hgt : now' + 1 < n
        · go_upto_region 13 with (first
            | (go_at_call 30; (with_reducible refine (f4.out _ _ HW3.out).mono ?_); rintro e w4 ⟨rfl, rfl⟩)
            | (go_at_call 48; (with_reducible refine (f5.out _ _ (n - 1) HW3.out HS3.out (by omega) (by omega)).mono ?_); rintro e w5 ⟨A5, c5, rfl, hw5, ht5⟩; have HW5 := Lib.hid hw5; have HT5 := Lib.hid (HT3.out.trans ht5); clear hw5 ht5))
          have HTb5 : Hid (Tab w5) := Lib.hid (HTw.out.tn HT5.out HGt.out)
          obtain ⟨T, hTm⟩ : ∃ T, max n (n - 1) = T := ⟨_, rfl⟩
          have hT1 : n ≤ T ∧ n - 1 ≤ T ∧ T ≤ 4503599627370496 := by omega
          go_upto_region 16 with (go_at_call 27; (with_reducible refine (f3.out _ _ HW5.out HTb5.out).mono ?_); rintro e w6 ⟨rfl, hb6⟩; have HW6 := Lib.hid (HW5.out.below hb6); have HT6 := Lib.hid (HT5.out.below hb6); have HS6 := Lib.hid (HTb5.out.below hb6 HTb5.out.lt); clear hb6)
          go_upto_region 17 with (first
            | (go_at_call 30; (with_reducible refine (f4.out _ _ HW6.out).mono ?_); rintro e w7 ⟨rfl, rfl⟩)
            | (go_at_call 48; (with_reducible refine (f6.out _ _ T HW6.out HS6.out hT1.2.1 hT1.2.2 hT1.1).mono ?_); rintro e w8 ⟨a8, n8, c8, L8, rfl, hc8, hn8, hw8, hl8, ht8⟩; have HW8 := Lib.hid hw8; have HT8 := Lib.hid (HT6.out.trans ht8); clear hw8 ht8))
          have hz8 : (((n8 + 1 : Nat) : Int) == 0) = false := beq_eq_false_iff_ne.2 (by omega)
          clear hTm f3 f4 f5 f6
          go_wp2
          go_roundw
          case rel => exact ⟨k + 1, T, L8, by go_num, by omega, by omega, HW8, HT8⟩
          case measure => simp [intOf]; omega
        · go_upto_region 12 with (go_at_call 30; (with_reducible refine (f4.out _ _ HW3.out).mono ?_); rintro e w4 ⟨rfl, rfl⟩)
          obtain ⟨T, hTm⟩ : ∃ T, max n (now') = T := ⟨_, rfl⟩
          have hT1 : n ≤ T ∧ now' ≤ T ∧ T ≤ 4503599627370496 := by omega
          go_upto_region 16 with (go_at_call 27; (with_reducible refine (f3.out _ _ HW3.out HS3.out).mono ?_); rintro e w6 ⟨rfl, hb6⟩; have HW6 := Lib.hid (HW3.out.below hb6); have HT6 := Lib.hid (HT3.out.below hb6); have HS6 := Lib.hid (HS3.out.below hb6 HS3.out.lt); clear hb6)
          go_upto_region 17 with (first
            | (go_at_call 30; (with_reducible refine (f4.out _ _ HW6.out).mono ?_); rintro e w7 ⟨rfl, rfl⟩)
            | (go_at_call 48; (with_reducible refine (f6.out _ _ T HW6.out HS6.out hT1.2.1 hT1.2.2 hT1.1).mono ?_); rintro e w8 ⟨a8, n8, c8, L8, rfl, hc8, hn8, hw8, hl8, ht8⟩; have HW8 := Lib.hid hw8; have HT8 := Lib.hid (HT6.out.trans ht8); clear hw8 ht8))
          have hz8 : (((n8 + 1 : Nat) : Int) == 0) = false := beq_eq_false_iff_ne.2 (by omega)
          clear hTm f3 f4 f5 f6
          go_wp2
          go_roundw
          case rel => exact ⟨k + 1, T, L8, by go_num, by omega, by omega, HW8, HT8⟩
          case measure => simp [intOf]; omega
  · have f2 := Lib.hid (fun X => filled_none now room l A c X hg)
    clear hr hid hT hg
    go_enter Tryd.func9, Tryd.ntmps9
    go_upto_region 3 with (go_at_call 39; (with_reducible refine f1.out.mono ?_); rintro e w1 ⟨rfl, hb1⟩; have HB1 := Lib.hid hb1; clear hb1)
    go_wp2_with (go_at_call 52; (with_reducible refine (f2.out _).mono ?_); rintro e w2 ⟨rfl, hb2⟩; have HB2 := Lib.hid (HB1.out.trans (hb2.mono HB1.out.size)); clear hb2)
    go_ret
    exact ⟨rfl, HB2.out⟩
end Go.Proofs.YtiblpnadninmbaaDoor

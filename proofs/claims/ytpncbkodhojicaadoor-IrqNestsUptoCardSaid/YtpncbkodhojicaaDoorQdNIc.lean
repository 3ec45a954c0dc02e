/- vergelaw19: the walk of IrqNests. Conditions: lists that read, the de Bruijn table. -/
import Derived.Test.YtpncbkodhojicaaDoorQdYIc
namespace Go.Proofs.YtpncbkodhojicaaDoor
open Go.RowKit Go.Shelf
attribute [local go_sem] Oper.semAt_some
set_option maxHeartbeats 16000000 in
set_option maxRecDepth 100000 in
theorem irqNests_any (ls : List Ln) (l : List Aq) (A : Option Addr) (c : Nat) (A' : Option Addr) (c' : Nat) (w : World) (hr : Rd w A (ls.flatMap lnc)) (hr2 : Rd w A' (l.flatMap aqc)) (hl : ls.length ≤ 1048576) (hl2 : l.length ≤ 1048576) (hT : Tab w) :
    Calls Tryd.prog 4 #[.slice A ls.length c, .slice A' l.length c'] w fun e w' => e = .returned (.bool true) ∧ Below w.heap.size w w' := by
  have f1 := Lib.hid (lives19_any w hT)
  have f2 := Lib.hid (fun X (hX : Below w.heap.size w X) => o_new ls hl A c w X hX.size (hr.below hX))
  have HR := Lib.hid hr
  have HR2 := Lib.hid hr2
  have HT := Lib.hid hT
  unfold RetNw at f2
  by_cases h0 : irqWhy ls = 0
  · simp only [if_pos h0] at f2
    have H0 := Lib.hid h0
    have hls : ls.length ≤ 64 := by
      unfold irqWhy at h0
      by_cases h9 : (ls.all lnMade && ls.all (fun x => prOk x.prio) && decide (ls.length ≤ 64)) = true
      · simp only [Bool.and_eq_true, decide_eq_true_eq] at h9; exact h9.2
      · rw [if_neg h9] at h0; omega
    have hmk := run_make_row' (P := Tryd.prog) 47 2 (.int .i64 0) 8 Tryd.underlying47 (by kernel_rfl) rfl .i64 .i64 ls.length (by omega) (by omega)
    have hmk2 := run_make_row' (P := Tryd.prog) 54 47 (.slice none 0 0) 24 Tryd.underlying54 (by kernel_rfl) rfl .i64 .i64 ls.length (by omega) (by omega)
    clear hr hr2 hT hl h0
    by_cases h60 : l.length ≤ 60
    · have z60 : decide ((60 : Int) < (l.length : Int)) = false := decide_eq_false (by omega)
      go_enter Tryd.func4, Tryd.ntmps4
      go_upto_region 3 with (go_at_call 5; (with_reducible refine f1.out.mono ?_); rintro e w1 ⟨rfl, hb1⟩; have HB1 := Lib.hid hb1; clear hb1)
      go_upto_region 4 with (go_at_call 6; (with_reducible refine (f2.out _ HB1.out).mono ?_); rintro e w2 ⟨p, xs, rfl, ho, hh, hn, hb2⟩; have HO2 := Lib.hid ho; have HH := Lib.hid hh; have HN := Lib.hid hn; have HB2 := Lib.hid (HB1.out.trans (hb2.mono HB1.out.size)); clear ho hh hn hb2)
      go_upto_region 10 with fail
      refine name_world fun V hV => ?_
      have HM0 := Lib.hid (NsM.new HO2.out HB2.out hV)
      have HI0 : Hid (NsI w ls p w2.heap.size (w2.heap.size + 1) (w2.heap.size + 1 + 1) V 0 ⟨xs, [], 0⟩ none 0) := Lib.hid ⟨_, _, _, _, HM0.out, NI.new H0.out HH.out HN.out⟩
      clear hV hmk hmk2 HM0 HO2 HB2 HB1 f1 f2 HH HN
      generalize w2.heap.size + 1 + 1 = bt at *
      generalize w2.heap.size + 1 = bw at *
      generalize w2.heap.size = bl at *
      go_wp2
      go_loopw [7, 11, 66] (fun st nw i wr => ∃ (k : Nat) (s : Qs) (SA : Option Addr) (sc : Nat), i = .int .i64 k ∧ k ≤ l.length ∧ st = .slice SA s.bs.length sc ∧ nw = .int .i64 s.last ∧ Hid (NsI w ls p bl bw bt wr k s SA sc)) (fun _ _ i _ => l.length - (intOf i).toNat)
      case atStart => exact ⟨0, _, none, 0, rfl, by omega, rfl, rfl, HI0⟩
      case round =>
        as_aux_lemma =>
        obtain ⟨k, s, SA, sc, rfl, hk, rfl, rfl, HIj⟩ := hrel
        by_cases hlt : k < l.length
        · go_upto_block 1 with fail
          refine nsBlk ls l p bl bw bt A c A' c' w _ k s SA sc HT.out HR.out HR2.out (by omega) hlt HIj.out _ ?_
          intros
          rename_i hrel
          obtain ⟨s', SA', sc', rfl, rfl, HI'⟩ := hrel
          go_wp2
          exact ⟨⟨k + 1, s', SA', sc', by go_num, hlt, rfl, rfl, HI'⟩, by simp [intOf]; omega⟩
        · obtain rfl : k = l.length := by omega
          have HLo := Lib.hid HIj.out.choose_spec.choose_spec.choose_spec.choose_spec.1.lo
          go_wp2
          go_ret
          exact ⟨rfl, HLo.out⟩
    · have z61 : decide ((60 : Int) < (l.length : Int)) = true := decide_eq_true (by omega)
      clear hmk hmk2
      go_enter Tryd.func4, Tryd.ntmps4
      go_upto_region 3 with (go_at_call 5; (with_reducible refine f1.out.mono ?_); rintro e w1 ⟨rfl, hb1⟩; have HB1 := Lib.hid hb1; clear hb1)
      go_upto_region 4 with (go_at_call 6; (with_reducible refine (f2.out _ HB1.out).mono ?_); rintro e w2 ⟨p, xs, rfl, _, _, _, hb2⟩; have HB2 := Lib.hid (HB1.out.trans (hb2.mono HB1.out.size)); clear hb2)
      go_wp2
      go_ret
      exact ⟨rfl, HB2.out⟩
  · simp only [if_neg h0] at f2
    clear hr hr2 hT hl h0
    go_enter Tryd.func4, Tryd.ntmps4
    go_upto_region 3 with (go_at_call 5; (with_reducible refine f1.out.mono ?_); rintro e w1 ⟨rfl, hb1⟩; have HB1 := Lib.hid hb1; clear hb1)
    go_upto_region 4 with (go_at_call 6; (with_reducible refine (f2.out _ HB1.out).mono ?_); rintro e w2 ⟨rfl, hb2⟩; have HB2 := Lib.hid (HB1.out.trans (hb2.mono HB1.out.size)); clear hb2)
    go_wp2
    go_ret
    exact ⟨rfl, HB2.out⟩
end Go.Proofs.YtpncbkodhojicaaDoor

/- Package vergelaw08: the walk of WheelParts. Conditions: lists that read, the de Bruijn table. -/
import Derived.Test.YtiblpnadninmbaaDoorWlB
import Derived.Test.YtiblpnadninmbaaDoorDuL
namespace Go.Proofs.YtiblpnadninmbaaDoor
open Go.RowKit Go.Shelf
attribute [local go_sem] Oper.semAt_some
/-- Where a move in parts stands: what was told, the last time, what stays. -/
structure PaI (L0 : List Du) (now last : Int) (k : Nat) (parts La : List Du) : Prop where
  n0 : now ≤ last
  n1 : last ≤ 4503599627370496
  told : parts ++ mvD last La = mvD last L0
  rest : rsD last La = rsD last L0
  len : parts.length + La.length = L0.length
  done : 1 ≤ k → ∀ x ∈ La, last < x.at'
  start : k = 0 → last = now
theorem PaI.zero {L0 : List Du} {now : Int} (h : now ≤ 4503599627370496) : PaI L0 now now 0 [] L0 :=
  ⟨by omega, h, rfl, rfl, by simp, fun h => by omega, fun _ => rfl⟩
theorem PaI.step {L0 : List Du} {now last : Int} {k : Nat} {parts La : List Du} (h : PaI L0 now last k parts La) {T : Int} (h0 : last ≤ T) (h1 : T ≤ 4503599627370496) : PaI L0 now T (k + 1) (parts ++ mvD T La) (rsD T La) := by
  have hn : mvD T (rsD T La) = [] ∧ rsD T (rsD T La) = rsD T La := mv_nil fun x hx => (rs_mem.1 hx).2
  refine ⟨by have := h.n0; omega, h1, ?_, ?_, ?_, fun _ x hx => (rs_mem.1 hx).2, fun h => by omega⟩
  · rw [hn.1, List.append_nil, mv_parts h0 La, mv_parts h0 L0, ← List.append_assoc, h.told, h.rest]
  · rw [hn.2, ← rs_parts h0 La, ← rs_parts h0 L0, h.rest]
  · rw [List.length_append]
    have := mv_len T La
    have := h.len
    omega
theorem PaI.skip {L0 : List Du} {now last : Int} {k : Nat} {parts La : List Du} (h : PaI L0 now last k parts La) (hk : 1 ≤ k) : PaI L0 now last (k + 1) parts La :=
  ⟨h.n0, h.n1, h.told, h.rest, h.len, fun _ => h.done hk, fun h => by omega⟩
theorem PaI.fin {L0 : List Du} {now last : Int} {k : Nat} {parts La : List Du} (h : PaI L0 now last k parts La) (hk : 1 ≤ k) : parts = mvD last L0 ∧ La = rsD last L0 := by
  have hn := mv_nil (h.done hk)
  have h1 := h.told
  have h2 := h.rest
  rw [hn.1, List.append_nil] at h1
  rw [hn.2] at h2
  exact ⟨h1, h2⟩
theorem filled_none (now room : Int) (l : List Du) (A : Option Addr) (c : Nat) (w : World) (h : ¬ ((0 ≤ now ∧ now ≤ 4503599627370496 ∧ 1 ≤ room ∧ room ≤ 4096) ∧ l.length ≤ 200)) :
    Calls Tryd.prog 52 #[.int .i64 now, .int .i64 room, .slice A l.length c] w fun e w' => e = .returned (.pointer none) ∧ Below w.heap.size w w' := by
  by_cases hv : 0 ≤ now ∧ now ≤ 4503599627370496 ∧ 1 ≤ room ∧ room ≤ 4096
  · obtain ⟨r, rfl⟩ : ∃ r : Nat, room = r := ⟨room.toNat, by omega⟩
    exact filled_long now r A l.length c w (by omega) hv.1 hv.2.1 (by omega) (by omega)
  · exact filled_bad now room A l.length c w hv
theorem skc_i64 : SlK Tryd.prog 64 2 1 8 := SlK.mk' (z := .int .i64 0) Tryd.underlying64 (by kernel_rfl) rfl (by decide)
theorem int_one (l : List Int) : ∀ u ∈ l.map (Value.int .i64), u.oneCell' = true := fun u hu => by
  obtain ⟨x, _, rfl⟩ := List.mem_map.1 hu
  rfl
theorem Whl.low {w w' : World} {f : WhF} {room : Nat} {now : Int} {L : List Du} {tn B : Nat} (h : Whl w f room now L tn) (hb : Below B w w') (hf : ∀ b ∈ f.l, b < B) : Whl w' f room now L tn := by
  obtain ⟨F, h1, h2⟩ := tnHigh hb
  exact h.tn' h2 (fun b hb hm => by have := hf b hb; have := h1 b hm; omega)
set_option maxHeartbeats 4000000 in
set_option maxRecDepth 100000 in
theorem wheelParts_any (now room : Int) (l : List Du) (A : Option Addr) (c : Nat) (ss : List Int) (S : Option Addr) (cs : Nat) (w : World) (_ : l.length ≤ 1048576) (hs : ss.length ≤ 1048576) (hr : Rd w A (l.flatMap duc)) (hS : Rd w S (ss.map (.int .i64))) (hid : ∀ x ∈ l, I64N x.id) (hT : Tab w) :
    Calls Tryd.prog 8 #[.int .i64 now, .int .i64 room, .slice A l.length c, .slice S ss.length cs] w fun e w' => e = .returned (.bool true) ∧ Below w.heap.size w w' := by
  have HR := Lib.hid hr; have HS := Lib.hid hS; have HI := Lib.hid hid; have HT := Lib.hid hT
  have Hlt := Lib.hid hT.lt
  have f1 := Lib.hid (lives08_any w hT)
  by_cases hg : (0 ≤ now ∧ now ≤ 4503599627370496 ∧ 1 ≤ room ∧ room ≤ 4096) ∧ l.length ≤ 200
  · obtain ⟨⟨h0, h1, h2, h3⟩, h4⟩ := hg
    obtain ⟨r, rfl⟩ : ∃ r : Nat, room = r := ⟨room.toNat, by omega⟩
    have f2 := Lib.hid (fun X (hX : Below w.heap.size w X) => filled_ok now r l A c X h4 (hr.below hX) hid h0 h1 (by omega) (by omega))
    unfold RetFi at f2
    have HPz := Lib.hid (PaI.zero (L0 := filL r l) h1)
    clear hr hS hid hT h0 h1 h2 h3
    go_enter Tryd.func8, Tryd.ntmps8
    go_upto_region 3 with (go_at_call 39; (with_reducible refine f1.out.mono ?_); rintro e w1 ⟨rfl, hb1⟩; have HB1 := Lib.hid hb1; clear hb1)
    go_upto_region 4 with (first
      | (go_at_call 52; (with_reducible refine (f2.out _ HB1.out).mono ?_); rintro e w2 ⟨f, rfl, hf2, hw2, hb2⟩; have HF := Lib.hid hf2; have HWf := Lib.hid hw2; have HB2 := Lib.hid (HB1.out.trans (hb2.mono HB1.out.size)); have HS1 := Lib.hid HB1.out.size; have HS2 := Lib.hid hb2.size; clear hf2 hw2 hb2 HB1)
      | (go_at_call 52; (with_reducible refine (f2.out _ HB2.out).mono ?_); rintro e w3 ⟨g, rfl, hg3, hw3, hb3⟩; have HGf := Lib.hid hg3; have HWg := Lib.hid hw3; have HWf3 := Lib.hid (HWf.out.below hb3); have HB3 := Lib.hid (HB2.out.trans (hb3.mono HB2.out.size)); clear hg3 hw3 hb3))
    have HFl : Hid (∀ b ∈ f.l, b < w3.heap.size) := Lib.hid HWf3.out.lt
    have HGl : Hid (∀ b ∈ g.l, b < w3.heap.size) := Lib.hid HWg.out.lt
    have HFG : Hid (∀ b ∈ g.l, b ∉ f.l) := Lib.hid (fun b hb hm => by have h1 := HGf.out b hb; have h2 := HWf.out.lt b hm; omega)
    have HE := Lib.hid (own_emptyK w3 2 (k := 1) (Nat.le_refl _))
    go_upto_region 9 with (at_builtin; (first
      | (go_loud (refine wp_appK rfl _ _ skc_i64 (by decide) rfl (own_allocK HE.out _) rfl (by omega) (by simp; omega) (w3.heap.size + 1) [.int .i64 now] rfl rfl (fun j u hu => by have h9 := new_cell (w := w3.alloc (.cells #[] 2)) (cs := #[.int .i64 now]) (t := 2) hu; rwa [World.size_alloc] at h9) rfl ?_); intro A4 c4 w4 ho4 hg4 hat4; have HO4 := Lib.hid ho4; have S4 := Lib.hid (grown_step HE.out hg4); have HB4 : Hid (Below w3.heap.size w3 w4) := Lib.hid (S4.out.below ((Below.refl _ _).alloc (Nat.le_refl _) _) (Nat.le_refl _) (by simp)); have HS4 := Lib.hid (HS.out.below (HB3.out.trans (HB4.out.mono HB3.out.size))); clear ho4 hg4 hat4)
      | (go_loud (refine wp_appNK rfl _ _ skc_i64 (by decide) rfl HO4.out rfl HB4.out.size S ss.length cs _ rfl (by simp) HS4.out (int_one ss) (by omega) ?_); intro A5 c5 w5 ho5 hb5; have HO5 := Lib.hid ho5; have HB5 := Lib.hid (HB4.out.trans hb5); clear ho5 hb5)))
    obtain ⟨ts, hts⟩ : ∃ ts, ts = now :: ss := ⟨_, rfl⟩
    have htl : 1 + ss.length = ts.length := by rw [hts, List.length_cons]; omega
    have HRt : Hid (Rd w5 A5 (ts.map (.int .i64))) := Lib.hid (by rw [hts]; exact own_rdK HO5.out)
    have Hts := Lib.hid hts
    have htn : ts.length ≤ 1048577 := by omega
    have HFB : Hid (∀ b ∈ f.l, b < w5.heap.size) := Lib.hid (fun b hb => Nat.lt_of_lt_of_le (HFl.out b hb) HB5.out.size)
    have HGB : Hid (∀ b ∈ g.l, b < w5.heap.size) := Lib.hid (fun b hb => Nat.lt_of_lt_of_le (HGl.out b hb) HB5.out.size)
    have HAF : Hid (∀ a, A5 = some a → a.block ∉ f.l ∧ a.block < w5.heap.size) := Lib.hid (fun a ha => by
      subst ha
      obtain ⟨g1, g2, _⟩ := own_blockK HO5.out rfl
      exact ⟨fun hm => by have := HFl.out _ hm; omega, g2⟩)
    have HWf5 := Lib.hid (HWf3.out.low HB5.out HFl.out)
    have HWg5 := Lib.hid (HWg.out.low HB5.out HGl.out)
    have HLL : Hid ((filL r l).length ≤ 4096) := Lib.hid (by have h9 := HWf.out.n0; omega)
    have HBw : Hid (Below w.heap.size w w5) := Lib.hid (HB3.out.trans (HB5.out.mono HB3.out.size))
    have HTw : Hid (Tab w5) := Lib.hid (HT.out.below HBw.out Hlt.out)
    have HGt : Hid (0 ∉ f.l ∧ 0 ∉ g.l) := Lib.hid ⟨fun hm => by have h8 := HF.out _ hm; have h7 := HS1.out; have h9 := Hlt.out; omega, fun hm => by have h8 := HGf.out _ hm; have h7 := HB2.out.size; have h9 := Hlt.out; omega⟩
    clear hts HO5 HE S4 HO4 HB4 HS4 f1 f2 HR HI HS
    rw [htl]
    have htI : Hid ((1 : Int) + (ss.length : Int) = (ts.length : Int)) := Lib.hid (by omega)
    clear htl
    go_wp2
    rw [htI.out]
    go_loopw [11, 12, 49] (fun p y i wr => ∃ (k : Nat) (parts La : List Du) (P : Option Addr) (cp : Nat) (last : Int), k ≤ ts.length ∧ i = .int .i64 k ∧ p = .slice P parts.length cp ∧ y = .int .i64 last ∧ parts.length ≤ 4096 ∧ Hid (PaI (filL r l) now last k parts La) ∧
      Hid (Whl wr f r last La l.length) ∧ Hid (Whl wr g r now (filL r l) l.length) ∧ Hid (wr.ownsRow w5.heap.size 98 2 (.slice P parts.length cp) parts.length (parts.flatMap duc)) ∧ Hid (Tn f.l w5 wr)) (fun _ _ i _ => ts.length - (intOf i).toNat)
    case atStart => exact ⟨0, [], filL r l, none, 0, now, by omega, rfl, rfl, rfl, by simp, HPz, HWf5, HWg5, Lib.hid (own_nilK _ _ _ _), Lib.hid (Tn.refl _ _)⟩
    case round =>
      obtain ⟨k, parts, La, P, cp, last, hk, rfl, rfl, rfl, hp4, HPj, HWj, HGj, HOj, HTj⟩ := hrel
      have HTb : Hid (Tab wr) := Lib.hid (HTw.out.tn HTj.out HGt.out.1)
      by_cases hlt : k < ts.length
      · obtain ⟨a, rfl, hc⟩ := (HRt.out.tn HTj.out (fun a ha => (HAF.out a ha).1)).int hlt
        obtain ⟨T, hT⟩ : ∃ T, ts.getD k 0 = T := ⟨_, rfl⟩
        rw [hT] at hc
        have HT0 : Hid (k = 0 → T = now) := Lib.hid (fun h0 => by rw [← hT, h0, Hts.out]; rfl)
        have f6 := Lib.hid (whl_move f r last La l.length wr T HWj.out HTb.out HGt.out.1)
        unfold RetMv at f6
        clear hT
        by_cases hcs : last ≤ T ∧ T ≤ 4503599627370496
        · simp only [if_pos hcs] at f6
          have HPn := Lib.hid (HPj.out.step hcs.1 hcs.2)
          have hpl : (parts ++ mvD T La).length ≤ 4096 := by
            have h8 := HPn.out.len
            have h9 := HLL.out
            omega
          have hm4 : (mvD T La).length ≤ 4096 := by rw [List.length_append] at hpl; omega
          clear hcs
          go_upto_region 13 with (go_at_call 48; (with_reducible refine f6.out.mono ?_); rintro e w6 ⟨M, cm, rfl, hr6, ha6, hw6, ht6⟩; have HR6 := Lib.hid hr6; have HW6 := Lib.hid hw6; have HT6 := Lib.hid (HTj.out.trans ht6); have HG6 := Lib.hid (HGj.out.tn' ht6 HFG.out); have HO6 := Lib.hid (own_tn HOj.out ht6 HFB.out); clear hr6 ha6 hw6 ht6)
          go_wp2_with (at_builtin; go_loud (refine wp_appNK rfl _ _ skc_du (by decide) rfl HO6.out rfl HT6.out.size M (mvD T La).length cm _ rfl (duc_len _) HR6.out (duc_one _) (by omega) ?_); intro P7 c7 w7 ho7 hb7; have HO7 := Lib.hid ho7; have HB7 := Lib.hid hb7; clear ho7 hb7)
          go_roundw
          case rel =>
            obtain ⟨F7, hF7, hT7⟩ := tnHigh HB7.out
            exact ⟨k + 1, parts ++ mvD T La, rsD T La, P7, c7, T, hlt, by go_num, by rw [List.length_append], rfl, hpl, HPn, Lib.hid (HW6.out.low HB7.out HFB.out), Lib.hid (HG6.out.low HB7.out HGB.out), Lib.hid (by rw [List.length_append, List.flatMap_append]; exact HO7.out), Lib.hid (HT6.out.new hT7 hF7)⟩
          case measure => simp [intOf]; omega
        · simp only [if_neg hcs] at f6
          have HPn := Lib.hid (HPj.out.skip (by
            rcases Nat.eq_zero_or_pos k with h0 | h0
            · exfalso
              have h8 := HT0.out h0
              have h7 := HPj.out.start h0
              have h6 := HPj.out.n1
              omega
            · exact h0))
          clear hcs
          go_wp2_with (go_at_call 48; (with_reducible refine f6.out.mono ?_); rintro e w6 ⟨rfl, hw6, ht6⟩; have HW6 := Lib.hid hw6; have HT6 := Lib.hid (HTj.out.trans ht6); have HG6 := Lib.hid (HGj.out.tn' ht6 HFG.out); have HO6 := Lib.hid (own_tn HOj.out ht6 HFB.out); clear hw6 ht6)
          go_roundw
          case rel =>
            exact ⟨k + 1, parts, La, P, cp, last, hlt, by go_num, rfl, rfl, hp4, HPn, HW6, HG6, HO6, HT6⟩
          case measure => simp [intOf]; omega
      · obtain rfl : k = ts.length := by omega
        have HE9 := Lib.hid (HPj.out.fin (by rw [Hts.out]; simp))
        obtain ⟨h9, h8⟩ := HE9.out
        subst h9 h8
        have hn9 := HPj.out.n0
        have hn8 := HPj.out.n1
        have hn7 := HWg.out.n0
        have f7 := Lib.hid (whl_move g r now (filL r l) l.length wr last HGj.out HTb.out HGt.out.2)
        unfold RetMv at f7
        simp only [if_pos (show now ≤ last ∧ last ≤ 4503599627370496 from ⟨hn9, hn8⟩)] at f7
        have hm4 : (mvD last (filL r l)).length ≤ 4096 := hp4
        have HOm := Lib.hid (own_rdK HOj.out)
        generalize mvD last (filL r l) = M9 at *
        generalize rsD last (filL r l) = R9 at *
        have f8 := Lib.hid (fun X (a1 : Rd X P (M9.flatMap duc)) B d (a2 : Rd X B (M9.flatMap duc)) => rsame_one M9 (by omega) P cp B d X a1 a2)
        have f9 := Lib.hid (fun X (hX : Whl X f r last R9 l.length) => whl_len f r last R9 l.length X hX)
        have g9 := Lib.hid (fun X (hX : Whl X g r last R9 l.length) => whl_len g r last R9 l.length X hX)
        have f3 := Lib.hid (fun X (hX : Whl X f r last R9 l.length) => whl_now f r last R9 l.length X hX)
        have g3 := Lib.hid (fun X (hX : Whl X g r last R9 l.length) => whl_now g r last R9 l.length X hX)
        have HFw := Lib.hid HWj.out
        go_upto_region 17 with (go_at_call 48; (with_reducible refine f7.out.mono ?_); rintro e w8 ⟨B8, c8, rfl, hr8, hb8, hw8, ht8⟩; have HR8 := Lib.hid hr8; have HG8 := Lib.hid hw8; have HF8 := Lib.hid (HFw.out.tn' ht8 (fun b h1 h2 => HFG.out b h2 h1)); have HP8 : Hid (Rd w8 P (M9.flatMap duc)) := Lib.hid (own_rdK (own_tn HOj.out ht8 (fun b hb => HGB.out b hb))); have HT8 := Lib.hid ht8; clear hr8 hb8 hw8 ht8)
        go_wp2_with (first
          | (go_at_call 49; (with_reducible refine (f8.out _ HP8.out _ _ HR8.out).mono ?_); rintro e w9 ⟨rfl, n9, rfl⟩; have HF9 := Lib.hid (HF8.out.tn' (F := []) ((Tn.refl _ _).drewN n9) (fun _ _ => by simp)); have HG9 := Lib.hid (HG8.out.tn' (F := []) ((Tn.refl _ _).drewN n9) (fun _ _ => by simp)); have HT9 := Lib.hid (HT8.out.drewN n9); clear HF8 HG8 HT8)
          | (go_at_call 29; (with_reducible refine (f9.out _ HF9.out).mono ?_); rintro e w4 ⟨rfl, rfl⟩)
          | (go_at_call 29; (with_reducible refine (g9.out _ HG9.out).mono ?_); rintro e w4 ⟨rfl, rfl⟩)
          | (go_at_call 30; (with_reducible refine (f3.out _ HF9.out).mono ?_); rintro e w4 ⟨rfl, rfl⟩)
          | (go_at_call 30; (with_reducible refine (g3.out _ HG9.out).mono ?_); rintro e w4 ⟨rfl, rfl⟩))
        go_ret
        refine ⟨rfl, (HTj.out.base HBw.out (fun b hb => ?_) HBw.out.size).trans (HT9.out.toBelow (fun b hb => ?_) ?_)⟩
        · exact Nat.le_trans HS1.out (HF.out b hb)
        · exact Nat.le_trans HB2.out.size (HGf.out b hb)
        · exact Nat.le_trans HBw.out.size HTj.out.size
  · have f2 := Lib.hid (fun X => filled_none now room l A c X hg)
    clear hr hS hid hT hg
    go_enter Tryd.func8, Tryd.ntmps8
    go_upto_region 3 with (go_at_call 39; (with_reducible refine f1.out.mono ?_); rintro e w1 ⟨rfl, hb1⟩; have HB1 := Lib.hid hb1; clear hb1)
    go_upto_region 4 with (first
      | (go_at_call 52; (with_reducible refine (f2.out _).mono ?_); rintro e w2 ⟨rfl, hb2⟩; have HB2 := Lib.hid (HB1.out.trans (hb2.mono HB1.out.size)); clear hb2; have HB1 := HB2))
    go_wp2
    go_ret
    exact ⟨rfl, HB1.out⟩
end Go.Proofs.YtiblpnadninmbaaDoor

/- Package tickless: a service's memory; the walks of Now, Len, rest, Wake. Conditions: a service's memory. -/
import Derived.Test.YtiblpnadninmbaaGreatDoorTkX2Y
import Derived.Test.YtiblpnadninmbaaGreatDoorTmDzY
import Derived.Deep.CutBlock
namespace Go.Proofs.YtiblpnadninmbaaGreatDoor
open Go.RowKit Go.Shelf
attribute [local go_sem] Oper.semAt_some
/-- A service's blocks. -/
structure SvF where
  ps : Nat
  t : TmF
def SvF.l (g : SvF) : List Nat := g.ps :: g.t.l
/-- A service in memory: its timers' time T, its clock's time now. -/
structure SvR (w : World) (g : SvF) (room : Nat) (mn mx T : Int) (L : List Du) (P : List Pe) (tn : Nat) (b : Int) (m l : Bool) (now : Int) (ar : Bool) (gc : Int) (nf : Bool) : Prop where
  box : w.heap[g.ps]? = some (.cells #[.int .i64 mn, .int .i64 mx, .int .u32 (now % 4294967296), .int .u32 b, .bool m, .bool l, .int .i64 now, .pointer (some ⟨g.t.pt, 0, none⟩), .bool ar, .int .i64 gc, .bool nf] 70 (0, 0))
  tms : Tms w g.t room T L P tn
  ap : g.ps ∉ g.t.l
section
variable {w w' : World} {g : SvF} {room : Nat} {mn mx T : Int} {L : List Du} {P : List Pe} {tn : Nat} {b : Int} {m l : Bool} {now : Int} {ar : Bool} {gc : Int} {nf : Bool}
theorem SvR.turn1 {b' : Int} {m' l' : Bool} {now' : Int} {ar' : Bool} {gc' : Int} {nf' : Bool} (h : SvR w g room mn mx T L P tn b m l now ar gc nf) (ht : Tn [g.ps] w w')
    (hb : w'.heap[g.ps]? = some (.cells #[.int .i64 mn, .int .i64 mx, .int .u32 (now' % 4294967296), .int .u32 b', .bool m', .bool l', .int .i64 now', .pointer (some ⟨g.t.pt, 0, none⟩), .bool ar', .int .i64 gc', .bool nf'] 70 (0, 0))) :
    SvR w' g room mn mx T L P tn b' m' l' now' ar' gc' nf' :=
  ⟨hb, h.tms.turn ht (fun _ hb hm => by obtain rfl := List.mem_singleton.1 hm; exact h.ap hb), h.ap⟩
theorem SvR.turn {F : List Nat} (h : SvR w g room mn mx T L P tn b m l now ar gc nf) (ht : Tn F w w') (hf : ∀ b ∈ g.l, b ∉ F) : SvR w' g room mn mx T L P tn b m l now ar gc nf :=
  ⟨ht.box h.box (hf _ (by simp [SvF.l])), h.tms.turn ht (fun b hb => hf b (by simp [SvF.l, hb])), h.ap⟩
theorem SvR.below (h : SvR w g room mn mx T L P tn b m l now ar gc nf) (hb : Below w.heap.size w w') : SvR w' g room mn mx T L P tn b m l now ar gc nf := h.turn (Tn.of_below [] hb) (fun _ _ => by simp)
theorem SvR.drewN (h : SvR w g room mn mx T L P tn b m l now ar gc nf) (n : Nat) : SvR (w.drewN n) g room mn mx T L P tn b m l now ar gc nf := h.turn (F := []) ((Tn.refl _ _).drewN n) (fun _ _ => by simp)
theorem SvR.drew1 (h : SvR w g room mn mx T L P tn b m l now ar gc nf) : SvR w.drew g room mn mx T L P tn b m l now ar gc nf := h.turn (F := []) (Tn.refl _ _).drew (fun _ _ => by simp)
theorem SvR.timers {T' : Int} {L' : List Du} {P' : List Pe} {tn' : Nat} (h : SvR w g room mn mx T L P tn b m l now ar gc nf) (hm : Tms w' g.t room T' L' P' tn') (ht : Tn g.t.l w w') : SvR w' g room mn mx T' L' P' tn' b m l now ar gc nf :=
  ⟨ht.box h.box h.ap, hm, h.ap⟩
theorem SvR.lt (h : SvR w g room mn mx T L P tn b m l now ar gc nf) : ∀ b ∈ g.l, b < w.heap.size := fun b hb => by
  unfold SvF.l at hb
  rcases List.mem_cons.1 hb with rfl | hb
  · exact box_lt h.box
  · exact h.tms.lt b hb
theorem SvR.low {B : Nat} (h : SvR w g room mn mx T L P tn b m l now ar gc nf) (hb : Below B w w') (hf : ∀ b ∈ g.l, b < B) : SvR w' g room mn mx T L P tn b m l now ar gc nf := by
  obtain ⟨F, h1, h2⟩ := tnHigh hb
  exact h.turn h2 (fun b hb hm => by have := hf b hb; have := h1 b hm; omega)
theorem SvF.tn1 (g : SvF) (h : Tn [g.ps] w w') : Tn g.l w w' := h.mono (fun b hb => by obtain rfl := List.mem_singleton.1 hb; simp [SvF.l])
theorem SvF.tnt (g : SvF) (h : Tn g.t.l w w') : Tn g.l w w' := h.mono (fun b hb => by simp [SvF.l, hb])
theorem tset {F : List Nat} {k i : Nat} (h : Tn F w w') (hk : k ∈ F) (v : Value) : Tn F w (w'.setCell ⟨k, i, none⟩ v) := h.setCell (p := ⟨k, i, none⟩) hk v
end
/-- How a service stands: for which deadline, and when it wakes. -/
def SvA (s : Sst) (b : Int) (m : Bool) (gc : Int) (nf : Bool) : Prop :=
  (s.armed = false → m = false) ∧ (s.armed = true → gc = s.goal ∧ ((nf = true ∧ s.wake = s.now) ∨ (nf = false ∧ m = true ∧ s.now < s.wake ∧ s.wake ≤ s.now + 2147483648 ∧ b = s.wake % 4294967296)))
theorem snow_any (g : SvF) (room : Nat) (mn mx T : Int) (L : List Du) (P : List Pe) (tn : Nat) (b : Int) (m l : Bool) (now : Int) (ar : Bool) (gc : Int) (nf : Bool) (w : World) (h : SvR w g room mn mx T L P tn b m l now ar gc nf) :
    Calls Tryz.prog 9 #[.pointer (some ⟨g.ps, 0, none⟩)] w fun e w' => e = .returned (.int .i64 now) ∧ w = w' := by
  obtain ⟨xx, xy⟩ := box_rules h.box
  have lx := box_lt h.box
  clear h
  go_enter Tryz.func9, Tryz.ntmps9
  go_wp2
  go_ret
  exact ⟨rfl, rfl⟩
theorem left_any (a b : Int) (m l : Bool) (w : World) : Calls Tryz.prog 26 #[hwv a b m l] w fun e w' => e = .returned (.tuple #[.int .i64 (if m = true then aheadN a b + 1 else 0), .bool m]) ∧ Below w.heap.size w w' := by
  cases m
  · exact left_none a b l w
  · exact left_armed a b l w
theorem slast_any (w : World) : Calls Tryz.prog 67 #[] w fun e w' => e = .returned (.int .u32 0) ∧ w = w' := by
  go_enter Tryz.func67, Tryz.ntmps67
  go_wp2
  go_ret
  exact ⟨rfl, rfl⟩
set_option maxHeartbeats 4000000 in
set_option maxRecDepth 100000 in
theorem srest_any (g : SvF) (room : Nat) (mn mx T : Int) (L : List Du) (P : List Pe) (tn : Nat) (b : Int) (m l : Bool) (now : Int) (ar : Bool) (gc : Int) (nf : Bool) (w : World) (h : SvR w g room mn mx T L P tn b m l now ar gc nf) :
    Calls Tryz.prog 52 #[.pointer (some ⟨g.ps, 0, none⟩)] w fun e w' => e = .returned (.tuple #[]) ∧ SvR w' g room mn mx T L P tn b false l now false gc false ∧ Tn [g.ps] w w' := by
  have H := Lib.hid h
  have hbox := h.box
  obtain ⟨cn, hcn⟩ : ∃ cn, now % 4294967296 = cn := ⟨_, rfl⟩
  rw [hcn] at hbox
  have HCn := Lib.hid hcn
  have HBx := Lib.hid hbox
  have f1 := Lib.hid (fun X => disarm_any cn b m l X)
  unfold hwv at f1
  clear h hcn hbox
  obtain ⟨xx, xy⟩ := box_rules HBx.out
  have lx := box_lt HBx.out
  go_enter Tryz.func52, Tryz.ntmps52
  go_upto_region 1 with fail
  refine name_world fun V hV => ?_
  have HV : Hid (V.heap[g.ps]? = some (.cells #[.int .i64 mn, .int .i64 mx, .int .u32 cn, .int .u32 b, .bool m, .bool l, .int .i64 now, .pointer (some ⟨g.t.pt, 0, none⟩), .bool false, .int .i64 gc, .bool false] 70 (0, 0))) := Lib.hid (by rw [hV]; exact box_set (i := 10) (box_set (i := 8) HBx.out _) _)
  have HT : Hid (Tn [g.ps] w V) := Lib.hid (by rw [hV]; exact tset (tset (Tn.refl _ _) (by simp) _) (by simp) _)
  clear hV xx xy lx
  obtain ⟨xx, xy⟩ := box_rules HV.out
  have lx := box_lt HV.out
  go_wp2_with (go_at_call 76; (with_reducible refine (f1.out _).mono ?_); rintro e w1 ⟨rfl, hb1⟩; have HV1 := Lib.hid (box_keep HV.out hb1); have HT1 := Lib.hid (HT.out.below hb1); clear hb1 xx xy lx; obtain ⟨xx, xy⟩ := box_rules HV1.out; have lx := box_lt HV1.out)
  refine name_post fun X hX => ?_
  have hT := tset (i := 5) (tset (i := 4) (tset (i := 3) (tset (i := 2) HT1.out (List.mem_singleton.2 rfl) (.int .u32 cn)) (List.mem_singleton.2 rfl) (.int .u32 b)) (List.mem_singleton.2 rfl) (.bool false)) (List.mem_singleton.2 rfl) (.bool l)
  have hE := box_set (i := 5) (box_set (i := 4) (box_set (i := 3) (box_set (i := 2) HV1.out (.int .u32 cn)) (.int .u32 b)) (.bool false)) (.bool l)
  rw [← hX] at hT hE
  clear hX
  go_end0
  exact ⟨rfl, H.out.turn1 hT (by rw [HCn.out]; exact hE), hT⟩
theorem wake_arith {now wake b : Int} (h1 : now < wake) (h2 : wake ≤ now + 2147483648) (h3 : b = wake % 4294967296) : now + (aheadN (now % 4294967296) b + 1) = wake := by
  unfold aheadN
  omega
set_option maxHeartbeats 4000000 in
set_option maxRecDepth 100000 in
theorem swake_any (s : Sst) (g : SvF) (room : Nat) (mn mx T : Int) (L : List Du) (P : List Pe) (tn : Nat) (b : Int) (m l : Bool) (gc : Int) (nf : Bool) (w : World) (h : SvR w g room mn mx T L P tn b m l s.now s.armed gc nf) (hA : SvA s b m gc nf) (h0 : 0 ≤ s.now) (h1 : s.wake ≤ 4503599627370496) :
    Calls Tryz.prog 8 #[.pointer (some ⟨g.ps, 0, none⟩)] w fun e w' => e = .returned (.tuple #[.int .i64 (if s.armed = true then s.wake else 0), .bool s.armed]) ∧ Below w.heap.size w w' := by
  have fN := Lib.hid (fun X (hX : SvR X g room mn mx T L P tn b m l s.now s.armed gc nf) => snow_any g room mn mx T L P tn b m l s.now s.armed gc nf X hX)
  have H := Lib.hid h
  have hbox := h.box
  obtain ⟨cn, hcn⟩ : ∃ cn, s.now % 4294967296 = cn := ⟨_, rfl⟩
  rw [hcn] at hbox
  have HBx := Lib.hid hbox
  have f1 := Lib.hid (fun X => left_any cn b m l X)
  unfold hwv at f1
  obtain ⟨xx, xy⟩ := box_rules HBx.out
  have lx := box_lt HBx.out
  clear h hbox
  obtain ⟨sL, sP, now, ar, goal, wake⟩ := s
  dsimp only at *
  obtain ⟨hA1, hA2⟩ := hA
  dsimp only at hA1 hA2
  cases ar with
  | false =>
    obtain ⟨lv, hlv⟩ : ∃ lv, (if m = true then aheadN cn b + 1 else 0) = lv := ⟨_, rfl⟩
    rw [hlv] at f1
    clear hA1 hA2 hcn hlv
    rw [if_neg (by simp)]
    go_enter Tryz.func8, Tryz.ntmps8
    go_upto_region 2 with (go_at_call 26; (with_reducible refine (f1.out _).mono ?_); rintro e w1 ⟨rfl, hb1⟩; have HV1 := Lib.hid (box_keep HBx.out hb1); have HB1 := Lib.hid hb1; clear hb1 xx xy lx; obtain ⟨xx, xy⟩ := box_rules HV1.out; have lx := box_lt HV1.out)
    go_wp2
    go_ret2
    exact ⟨rfl, HB1.out⟩
  | true =>
    rw [if_pos rfl]
    obtain ⟨hg, hw⟩ := hA2 rfl
    rcases hw with ⟨rfl, rfl⟩ | ⟨rfl, rfl, q1, q2, q3⟩
    · obtain ⟨lv, hlv⟩ : ∃ lv, (if m = true then aheadN cn b + 1 else 0) = lv := ⟨_, rfl⟩
      rw [hlv] at f1
      clear hA1 hA2 hcn hg hlv
      go_enter Tryz.func8, Tryz.ntmps8
      go_upto_region 2 with (go_at_call 26; (with_reducible refine (f1.out _).mono ?_); rintro e w1 ⟨rfl, hb1⟩; have HV1 := Lib.hid (box_keep HBx.out hb1); have HR1 := Lib.hid (H.out.below hb1); have HB1 := Lib.hid hb1; clear hb1 xx xy lx; obtain ⟨xx, xy⟩ := box_rules HV1.out; have lx := box_lt HV1.out)
      go_wp2_with (go_at_call 9; (with_reducible refine (fN.out _ HR1.out).mono ?_); rintro e w2 ⟨rfl, rfl⟩)
      go_ret2
      exact ⟨rfl, HB1.out⟩
    · have hwk := wake_arith q1 q2 q3
      rw [hcn] at hwk
      rw [if_pos rfl] at f1
      obtain ⟨d, hd⟩ : ∃ d, aheadN cn b + 1 = d := ⟨_, rfl⟩
      rw [hd] at f1 hwk
      have hw : wrap64 (now + d) = wake := by rw [hwk]; exact Go.IntWalk.wrap64_in _ (by omega)
      clear hA1 hA2 hcn hg hd q1 q2 q3 hwk
      go_enter Tryz.func8, Tryz.ntmps8
      go_upto_region 2 with (go_at_call 26; (with_reducible refine (f1.out _).mono ?_); rintro e w1 ⟨rfl, hb1⟩; have HV1 := Lib.hid (box_keep HBx.out hb1); have HR1 := Lib.hid (H.out.below hb1); have HB1 := Lib.hid hb1; clear hb1 xx xy lx; obtain ⟨xx, xy⟩ := box_rules HV1.out; have lx := box_lt HV1.out)
      go_wp2_with (go_at_call 9; (with_reducible refine (fN.out _ HR1.out).mono ?_); rintro e w2 ⟨rfl, rfl⟩)
      go_ret2
      refine ⟨?_, HB1.out⟩
      show Ending.returned (.tuple #[.int .i64 (wrap64 (now + d)), .bool true]) = _
      rw [hw]
end Go.Proofs.YtiblpnadninmbaaGreatDoor
/- Package tickless: the walk of look. Conditions: a service's memory, the de Bruijn table. -/
namespace Go.Proofs.YtiblpnadninmbaaGreatDoor
open Go.RowKit Go.Shelf
attribute [local go_sem] Oper.semAt_some
set_option maxHeartbeats 4000000 in
set_option maxRecDepth 100000 in
/-- look: there are none. -/
theorem slook_none (g : SvF) (room : Nat) (mn mx T : Int) (P : List Pe) (tn : Nat) (b : Int) (m l : Bool) (now : Int) (ar : Bool) (gc : Int) (nf : Bool) (w : World) (h : SvR w g room mn mx T [] P tn b m l now ar gc nf) (hT : Tab w) :
    Calls Tryz.prog 44 #[.pointer (some ⟨g.ps, 0, none⟩)] w fun e w' => e = .returned (.tuple #[]) ∧ SvR w' g room mn mx T [] P tn b false l now false gc false ∧ Tn [g.ps] w w' := by
  have H := Lib.hid h
  have f1 := Lib.hid (whl_next g.t.f room T [] tn w h.tms.whl hT)
  rw [if_pos rfl] at f1
  have f2 := Lib.hid (fun X hX => srest_any g room mn mx T [] P tn b m l now ar gc nf X hX)
  obtain ⟨xx, xy⟩ := box_rules h.box
  have lx := box_lt h.box
  obtain ⟨tx, ty⟩ := box_rules h.tms.box
  have lt := box_lt h.tms.box
  clear h hT
  go_enter Tryz.func44, Tryz.ntmps44
  go_upto_region 1 with (go_at_call 64; (with_reducible refine f1.out.mono ?_); rintro e w1 ⟨rfl, hb1⟩; have HR1 := Lib.hid (H.out.below hb1); have HT1 := Lib.hid (Tn.of_below [g.ps] hb1); clear hb1 xx xy lx tx ty lt)
  go_wp2_with (go_at_call 52; (with_reducible refine (f2.out _ HR1.out).mono ?_); rintro e w2 ⟨rfl, hr2, ht2⟩; have HR2 := Lib.hid hr2; have HT2 := Lib.hid (HT1.out.trans ht2); clear hr2 ht2)
  refine bodyPost_ret (results_none rfl _ _ _) rfl ?_
  exact ⟨rfl, HR2.out, HT2.out⟩
set_option maxHeartbeats 4000000 in
set_option maxRecDepth 100000 in
/-- look: it is armed for the first one. -/
theorem slook_same (g : SvF) (room : Nat) (mn mx T : Int) (L : List Du) (P : List Pe) (tn : Nat) (b : Int) (m l : Bool) (now nx : Int) (nf : Bool) (w : World) (h : SvR w g room mn mx T L P tn b m l now true nx nf) (hT : Tab w) (hL : L ≠ []) (hnx : minD 4503599627370496 L = nx) :
    Calls Tryz.prog 44 #[.pointer (some ⟨g.ps, 0, none⟩)] w fun e w' => e = .returned (.tuple #[]) ∧ SvR w' g room mn mx T L P tn b m l now true nx nf ∧ Tn [g.ps] w w' := by
  have H := Lib.hid h
  have f1 := Lib.hid (whl_next g.t.f room T L tn w h.tms.whl hT)
  rw [if_neg hL, decide_eq_false hL, hnx] at f1
  obtain ⟨xx, xy⟩ := box_rules h.box
  have lx := box_lt h.box
  obtain ⟨tx, ty⟩ := box_rules h.tms.box
  have lt := box_lt h.tms.box
  clear h hT hL hnx
  go_enter Tryz.func44, Tryz.ntmps44
  go_upto_region 1 with (go_at_call 64; (with_reducible refine f1.out.mono ?_); rintro e w1 ⟨rfl, hb1⟩; have HR1 := Lib.hid (H.out.below hb1); have HT1 := Lib.hid (Tn.of_below [g.ps] hb1); clear hb1 xx xy lx tx ty lt)
  obtain ⟨xx, xy⟩ := box_rules HR1.out.box
  have lx := box_lt HR1.out.box
  go_wp2
  refine bodyPost_ret (results_none rfl _ _ _) rfl ?_
  exact ⟨rfl, HR1.out, HT1.out⟩

set_option maxHeartbeats 8000000 in
set_option maxRecDepth 100000 in
/-- look: it is armed anew. -/
theorem slook_arm (g : SvF) (room : Nat) (mn mx T : Int) (L : List Du) (P : List Pe) (tn : Nat) (b : Int) (m l : Bool) (now nx : Int) (ar : Bool) (gc : Int) (nf : Bool) (c0 cb c4 : Int) (cm cl : Bool) (k : Int) (w : World) (h : SvR w g room mn mx T L P tn b m l now ar gc nf) (hT : Tab w) (hL : L ≠ []) (hnx : minD 4503599627370496 L = nx) (hno : (ar && decide (gc = nx)) = false)
    (hc0 : c0 = now % 4294967296) (hc4 : c4 = now) (fA : ∀ X, Calls Tryz.prog 65 #[clv (now % 4294967296) b m l now, .agg #[.int .i64 mn, .int .i64 mx], .int .i64 nx] X fun e w' => e = .returned (.tuple #[clv c0 cb cm cl c4, .int .u8 k, .int .i64 0]) ∧ Below X.heap.size X w') :
    Calls Tryz.prog 44 #[.pointer (some ⟨g.ps, 0, none⟩)] w fun e w' => e = .returned (.tuple #[]) ∧ SvR w' g room mn mx T L P tn cb cm cl now true nx (k == 1) ∧ Tn [g.ps] w w' := by
  have HC0 := Lib.hid hc0; have HC4 := Lib.hid hc4
  clear hc0 hc4
  have H := Lib.hid h
  have f1 := Lib.hid (whl_next g.t.f room T L tn w h.tms.whl hT)
  rw [if_neg hL, decide_eq_false hL, hnx] at f1
  have hbox := h.box
  obtain ⟨cn, hcn⟩ : ∃ cn, now % 4294967296 = cn := ⟨_, rfl⟩
  rw [hcn] at hbox
  have HCn := Lib.hid hcn
  have HBx := Lib.hid hbox
  rw [hcn] at fA
  unfold clv at fA
  have HA := Lib.hid fA
  obtain ⟨xx, xy⟩ := box_rules HBx.out
  have lx := box_lt HBx.out
  obtain ⟨tx, ty⟩ := box_rules h.tms.box
  have lt := box_lt h.tms.box
  clear h hT hL hnx hbox hcn fA
  go_enter Tryz.func44, Tryz.ntmps44
  go_upto_block 0 with (go_at_call 64; (with_reducible refine f1.out.mono ?_); rintro e w1 ⟨rfl, hb1⟩; have HB1 := Lib.hid (box_keep HBx.out hb1); have HR1 := Lib.hid (H.out.below hb1); have HT1 := Lib.hid (Tn.of_below [g.ps] hb1); clear hb1 xx xy lx tx ty lt)
  obtain ⟨xx, xy⟩ := box_rules HB1.out
  have lx := box_lt HB1.out
  go_cut [18] (fun _ wx => w1 = wx)
  case first =>
    cases ar
    · go_wp2
      go_meet
      rfl
    · have hg : (gc == nx) = false := by simpa using hno
      go_wp2
      go_meet
      rfl
  case rest =>
  obtain rfl := hcut
  go_upto_region 5 with fail
  refine name_world fun V hV => ?_
  have HV : Hid (V.heap[g.ps]? = some (.cells #[.int .i64 mn, .int .i64 mx, .int .u32 cn, .int .u32 b, .bool m, .bool l, .int .i64 now, .pointer (some ⟨g.t.pt, 0, none⟩), .bool true, .int .i64 nx, .bool false] 70 (0, 0))) := Lib.hid (by rw [hV]; exact box_set (i := 10) (box_set (i := 9) (box_set (i := 8) HB1.out _) _) _)
  have HT2 : Hid (Tn [g.ps] w V) := Lib.hid (by rw [hV]; exact tset (tset (tset HT1.out (by simp) _) (by simp) _) (by simp) _)
  clear hV xx xy lx
  obtain ⟨xx, xy⟩ := box_rules HV.out
  have lx := box_lt HV.out
  go_cut [4, 5, 6] (fun p k' e' wx => ∃ bb, p = .pointer (some ⟨bb, 0, none⟩) ∧ k' = .int .u8 k ∧ e' = .int .i64 0 ∧ V.heap.size ≤ bb ∧ wx.heap[bb]? = some (.cells #[.int .u32 c0, .int .u32 cb, .bool cm, .bool cl, .int .i64 c4] 66 (0, 0)) ∧ Below V.heap.size V wx)
  case first =>
    have hR : ∀ w', Hid (Below V.heap.size V w') → ∀ i, w'.cell? ⟨g.ps, i, none⟩ = _ := fun w' h i => (box_rules (box_keep HV.out h.out)).1 i
    have hR0 : Hid (Below V.heap.size V V) := Lib.hid (Below.refl _ _)
    clear xx xy lx
    go_region_held3 (fun w' => Hid (Below V.heap.size V w')) ((repeat (first | (with_reducible assumption) | ((with_reducible refine S_setK ?_ ?_ _); rotate_left 1; focus (first | exact Nat.le_refl _ | exact hs3 | ((try simp); omega))) | (with_reducible refine S_drewK ?_) | ((with_reducible refine S_allocK ?_ ?_ _); rotate_left 1; focus (exact Nat.le_refl _))))) ((first | (go_at_call 65; (with_reducible refine (HA.out _).mono ?_); rintro e w3 ⟨rfl, hb3⟩; have hb4 := undrew hb3; (first | (have HX3 := Lib.hid (box_new hb4); obtain ⟨zx, zy⟩ := box_rules HX3.out; have lz := box_lt HX3.out; have HB3 := Lib.hid (((Below.refl _ V).alloc (Nat.le_refl _) _).trans (hb4.mono (by simp)))) | (have HB3 := Lib.hid hb4)); have hs3 := HB3.out.size; clear hb3 hb4)))
    all_goals
      go_wp2_with fail
      go_meet
      first
        | exact ⟨V.heap.size, rfl, rfl, rfl, Nat.le_refl _, (set5 HX3.out rfl _ _ _ _ _).1, (set5 HX3.out rfl _ _ _ _ _).2.base HB3.out (fun q hq => by obtain rfl := List.mem_singleton.1 hq; exact Nat.le_refl _) HB3.out.size⟩
        | exact ⟨w3.heap.size, rfl, rfl, rfl, hs3, heap_alloc_new _ _, HB3.out.alloc hs3 _⟩
  case rest =>
  obtain ⟨bb, rfl, rfl, rfl, hbb, hbx, hbel⟩ := hcut
  clear xx xy lx
  have HV2 := Lib.hid (box_keep HV.out hbel)
  have HT3 := Lib.hid (HT2.out.below hbel)
  have HBB := Lib.hid hbx
  clear hbx hbel hbb
  obtain ⟨xx, xy⟩ := box_rules HV2.out
  have lx := box_lt HV2.out
  obtain ⟨bx, bY⟩ := box_rules HBB.out
  have lb := box_lt HBB.out
  go_wp2
  refine name_post fun X hX => ?_
  have hT := tset (i := 10) (tset (i := 6) (tset (i := 5) (tset (i := 4) (tset (i := 3) (tset (i := 2) HT3.out (List.mem_singleton.2 rfl) (.int .u32 c0)) (List.mem_singleton.2 rfl) (.int .u32 cb)) (List.mem_singleton.2 rfl) (.bool cm)) (List.mem_singleton.2 rfl) (.bool cl)) (List.mem_singleton.2 rfl) (.int .i64 c4)) (List.mem_singleton.2 rfl) (.bool (k == 1))
  have hE := box_set (i := 10) (box_set (i := 6) (box_set (i := 5) (box_set (i := 4) (box_set (i := 3) (box_set (i := 2) HV2.out (.int .u32 c0)) (.int .u32 cb)) (.bool cm)) (.bool cl)) (.int .i64 c4)) (.bool (k == 1))
  rw [← hX] at hT hE
  clear hX
  rw [HC0.out, HC4.out] at hE
  go_end0
  exact ⟨rfl, H.out.turn1 hT hE, hT⟩
end Go.Proofs.YtiblpnadninmbaaGreatDoor
/- Package tickless: the walk of look where the plan is behind the end of time. Conditions: a service's memory, the de Bruijn table. -/
namespace Go.Proofs.YtiblpnadninmbaaGreatDoor
open Go.RowKit Go.Shelf
attribute [local go_sem] Oper.semAt_some

set_option maxHeartbeats 8000000 in
set_option maxRecDepth 100000 in
/-- look: the plan is behind the end of time. -/
theorem slook_late (g : SvF) (room : Nat) (mn mx T : Int) (L : List Du) (P : List Pe) (tn : Nat) (b : Int) (m l : Bool) (now nx : Int) (ar : Bool) (gc : Int) (nf : Bool) (c0 cb c4 : Int) (cm cl : Bool) (k : Int) (w : World) (h : SvR w g room mn mx T L P tn b m l now ar gc nf) (hT : Tab w) (hL : L ≠ []) (hnx : minD 4503599627370496 L = nx) (hno : (ar && decide (gc = nx)) = false)
    (fA : ∀ X, Calls Tryz.prog 65 #[clv (now % 4294967296) b m l now, .agg #[.int .i64 mn, .int .i64 mx], .int .i64 nx] X fun e w' => e = .returned (.tuple #[clv c0 cb cm cl c4, .int .u8 k, .int .i64 6]) ∧ Below X.heap.size X w') :
    Calls Tryz.prog 44 #[.pointer (some ⟨g.ps, 0, none⟩)] w fun e w' => e = .returned (.tuple #[]) ∧ SvR w' g room mn mx T L P tn 0 true l now true nx (now == 4503599627370496) ∧ Tn [g.ps] w w' := by
  have fN := Lib.hid (fun X hX => snow_any g room mn mx T L P tn 0 true l now true nx false X hX)
  have f5 := Lib.hid (fun X => slast_any X)
  have H := Lib.hid h
  have f1 := Lib.hid (whl_next g.t.f room T L tn w h.tms.whl hT)
  rw [if_neg hL, decide_eq_false hL, hnx] at f1
  have hbox := h.box
  obtain ⟨cn, hcn⟩ : ∃ cn, now % 4294967296 = cn := ⟨_, rfl⟩
  rw [hcn] at hbox
  have HCn := Lib.hid hcn
  have HBx := Lib.hid hbox
  rw [hcn] at fA
  unfold clv at fA
  have HA := Lib.hid fA
  obtain ⟨xx, xy⟩ := box_rules HBx.out
  have lx := box_lt HBx.out
  obtain ⟨tx, ty⟩ := box_rules h.tms.box
  have lt := box_lt h.tms.box
  clear h hT hL hnx hbox hcn fA
  go_enter Tryz.func44, Tryz.ntmps44
  go_upto_block 0 with (go_at_call 64; (with_reducible refine f1.out.mono ?_); rintro e w1 ⟨rfl, hb1⟩; have HB1 := Lib.hid (box_keep HBx.out hb1); have HR1 := Lib.hid (H.out.below hb1); have HT1 := Lib.hid (Tn.of_below [g.ps] hb1); clear hb1 xx xy lx tx ty lt)
  obtain ⟨xx, xy⟩ := box_rules HB1.out
  have lx := box_lt HB1.out
  have f6 := Lib.hid (fun X => arm_any cn b m l 0 X)
  unfold hwv at f6
  go_cut [18] (fun _ wx => w1 = wx)
  case first =>
    cases ar
    · go_wp2
      go_meet
      rfl
    · have hg : (gc == nx) = false := by simpa using hno
      go_wp2
      go_meet
      rfl
  case rest =>
  obtain rfl := hcut
  go_upto_region 5 with fail
  refine name_world fun V hV => ?_
  have HV : Hid (V.heap[g.ps]? = some (.cells #[.int .i64 mn, .int .i64 mx, .int .u32 cn, .int .u32 b, .bool m, .bool l, .int .i64 now, .pointer (some ⟨g.t.pt, 0, none⟩), .bool true, .int .i64 nx, .bool false] 70 (0, 0))) := Lib.hid (by rw [hV]; exact box_set (i := 10) (box_set (i := 9) (box_set (i := 8) HB1.out _) _) _)
  have HT2 : Hid (Tn [g.ps] w V) := Lib.hid (by rw [hV]; exact tset (tset (tset HT1.out (by simp) _) (by simp) _) (by simp) _)
  clear hV xx xy lx
  obtain ⟨xx, xy⟩ := box_rules HV.out
  have lx := box_lt HV.out
  go_cut [4, 5, 6] (fun p k' e' wx => ∃ bb, p = .pointer (some ⟨bb, 0, none⟩) ∧ k' = .int .u8 k ∧ e' = .int .i64 6 ∧ V.heap.size ≤ bb ∧ wx.heap[bb]? = some (.cells #[.int .u32 c0, .int .u32 cb, .bool cm, .bool cl, .int .i64 c4] 66 (0, 0)) ∧ Below V.heap.size V wx)
  case first =>
    have hR : ∀ w', Hid (Below V.heap.size V w') → ∀ i, w'.cell? ⟨g.ps, i, none⟩ = _ := fun w' h i => (box_rules (box_keep HV.out h.out)).1 i
    have hR0 : Hid (Below V.heap.size V V) := Lib.hid (Below.refl _ _)
    clear xx xy lx
    go_region_held3 (fun w' => Hid (Below V.heap.size V w')) ((repeat (first | (with_reducible assumption) | ((with_reducible refine S_setK ?_ ?_ _); rotate_left 1; focus (first | exact Nat.le_refl _ | exact hs3 | ((try simp); omega))) | (with_reducible refine S_drewK ?_) | ((with_reducible refine S_allocK ?_ ?_ _); rotate_left 1; focus (exact Nat.le_refl _))))) ((first | (go_at_call 65; (with_reducible refine (HA.out _).mono ?_); rintro e w3 ⟨rfl, hb3⟩; have hb4 := undrew hb3; (first | (have HX3 := Lib.hid (box_new hb4); obtain ⟨zx, zy⟩ := box_rules HX3.out; have lz := box_lt HX3.out; have HB3 := Lib.hid (((Below.refl _ V).alloc (Nat.le_refl _) _).trans (hb4.mono (by simp)))) | (have HB3 := Lib.hid hb4)); have hs3 := HB3.out.size; clear hb3 hb4)))
    all_goals
      go_wp2_with fail
      go_meet
      first
        | exact ⟨V.heap.size, rfl, rfl, rfl, Nat.le_refl _, (set5 HX3.out rfl _ _ _ _ _).1, (set5 HX3.out rfl _ _ _ _ _).2.base HB3.out (fun q hq => by obtain rfl := List.mem_singleton.1 hq; exact Nat.le_refl _) HB3.out.size⟩
        | exact ⟨w3.heap.size, rfl, rfl, rfl, hs3, heap_alloc_new _ _, HB3.out.alloc hs3 _⟩
  case rest =>
  obtain ⟨bb, rfl, rfl, rfl, hbb, hbx, hbel⟩ := hcut
  clear xx xy lx
  have HV2 := Lib.hid (box_keep HV.out hbel)
  have HT3 := Lib.hid (HT2.out.below hbel)
  have HBB := Lib.hid hbx
  clear hbx hbel hbb
  obtain ⟨xx, xy⟩ := box_rules HV2.out
  have lx := box_lt HV2.out
  obtain ⟨bx, bY⟩ := box_rules HBB.out
  have lb := box_lt HBB.out
  go_upto_region 7 with fail
  go_region_with ((first
    | (go_at_call 67; (with_reducible refine (f5.out _).mono ?_); rintro e w9 ⟨rfl, rfl⟩)
    | (go_at_call 66; (with_reducible refine (f6.out _).mono ?_); rintro e w4 ⟨rfl, hb4⟩; have HV4 := Lib.hid (box_keep HV2.out (undrew hb4)); have HT4 := Lib.hid (HT3.out.below (undrew hb4)); clear hb4; obtain ⟨x4, y4⟩ := box_rules HV4.out; have l4 := box_lt HV4.out)))
  all_goals
    clear xx xy lx
    go_upto_region 8 with fail
    refine name_world fun U hU => ?_
    have hT := tset (i := 5) (tset (i := 4) (tset (i := 3) (tset (i := 2) HT4.out (List.mem_singleton.2 rfl) (.int .u32 cn)) (List.mem_singleton.2 rfl) (.int .u32 0)) (List.mem_singleton.2 rfl) (.bool true)) (List.mem_singleton.2 rfl) (.bool l)
    have hE := box_set (i := 5) (box_set (i := 4) (box_set (i := 3) (box_set (i := 2) HV4.out (.int .u32 cn)) (.int .u32 0)) (.bool true)) (.bool l)
    rw [← hU] at hT hE
    have HT5 := Lib.hid hT
    have HE5 := Lib.hid hE
    have HR5 : Hid (SvR U g room mn mx T L P tn 0 true l now true nx false) := Lib.hid (H.out.turn1 hT (by rw [HCn.out]; exact hE))
    clear hU hT hE x4 y4 l4
    obtain ⟨xx, xy⟩ := box_rules HR5.out.box
    have lx := box_lt HR5.out.box
    go_wp2_with (go_at_call 9; (with_reducible refine (fN.out _ HR5.out).mono ?_); rintro e w6 ⟨rfl, rfl⟩)
    refine name_post fun X hX => ?_
    have hT := tset (i := 10) HT5.out (List.mem_singleton.2 rfl) (.bool (now == 4503599627370496))
    have hE := box_set (i := 10) HR5.out.box (.bool (now == 4503599627370496))
    rw [← hX] at hT hE
    clear hX
    refine bodyPost_ret (results_none rfl _ _ _) rfl ?_
    exact ⟨rfl, H.out.turn1 hT hE, hT⟩
end Go.Proofs.YtiblpnadninmbaaGreatDoor
/- Package tickless: look by what it does; the walks of looked, Start, Every, Stop. Conditions: a service's memory, the de Bruijn table. -/
namespace Go.Proofs.YtiblpnadninmbaaGreatDoor
open Go.RowKit Go.Shelf
attribute [local go_sem] Oper.semAt_some
/-- A service in memory, told by what it does. -/
def SvS (w : World) (g : SvF) (room : Nat) (mn mx T : Int) (s : Sst) (tn : Nat) : Prop :=
  ∃ b m l gc nf, SvR w g room mn mx T s.L s.P tn b m l s.now s.armed gc nf ∧ SvA s b m gc nf
section
variable {w w' : World} {g : SvF} {room : Nat} {mn mx T : Int} {s : Sst} {tn : Nat}
theorem SvS.turn {F : List Nat} (h : SvS w g room mn mx T s tn) (ht : Tn F w w') (hf : ∀ b ∈ g.l, b ∉ F) : SvS w' g room mn mx T s tn := by
  obtain ⟨b, m, l, gc, nf, h1, h2⟩ := h
  exact ⟨b, m, l, gc, nf, h1.turn ht hf, h2⟩
theorem SvS.below (h : SvS w g room mn mx T s tn) (hb : Below w.heap.size w w') : SvS w' g room mn mx T s tn := h.turn (Tn.of_below [] hb) (fun _ _ => by simp)
theorem SvS.low {B : Nat} (h : SvS w g room mn mx T s tn) (hb : Below B w w') (hf : ∀ b ∈ g.l, b < B) : SvS w' g room mn mx T s tn := by
  obtain ⟨b, m, l, gc, nf, h1, h2⟩ := h
  exact ⟨b, m, l, gc, nf, h1.low hb hf, h2⟩
theorem SvS.lt (h : SvS w g room mn mx T s tn) : ∀ b ∈ g.l, b < w.heap.size := by
  obtain ⟨b, m, l, gc, nf, h1, h2⟩ := h
  exact h1.lt
theorem SvS.ats (h : SvS w g room mn mx T s tn) : ∀ x ∈ s.L, 0 ≤ x.at' ∧ x.at' ≤ 4503599627370496 := by
  obtain ⟨b, m, l, gc, nf, h1, h2⟩ := h
  exact h1.tms.whl.at0
end
theorem slook_any (g : SvF) (room : Nat) (mn mx : Int) (s : Sst) (tn : Nat) (w : World) (h : SvS w g room mn mx s.now s tn) (hok : TmOk mn mx) (h0 : 0 ≤ s.now) (h1 : s.now ≤ 4503599627370496) (hT : Tab w) :
    Calls Tryz.prog 44 #[.pointer (some ⟨g.ps, 0, none⟩)] w fun e w' => e = .returned (.tuple #[]) ∧ SvS w' g room mn mx s.now (lookS mn mx s) tn ∧ Tn [g.ps] w w' := by
  have hats := h.ats
  obtain ⟨b, m, l, gc, nf, hR, hA1, hA2⟩ := h
  obtain ⟨L, P, now, ar, goal, wake⟩ := s
  dsimp only at *
  unfold lookS
  dsimp only
  by_cases hL : L = []
  · subst hL
    rw [if_pos rfl]
    exact (slook_none g room mn mx now P tn b m l now ar gc nf w hR hT).mono fun e w' ⟨q1, q2, q3⟩ => ⟨q1, ⟨b, false, l, gc, false, q2, fun _ => rfl, fun h9 => (by cases h9)⟩, q3⟩
  · rw [if_neg hL]
    by_cases ha : ar = true ∧ goal = minD 4503599627370496 L
    · rw [if_pos ha]
      obtain ⟨rfl, hg⟩ := ha
      have hgc := (hA2 rfl).1
      subst hgc
      exact (slook_same g room mn mx now L P tn b m l now gc nf w hR hT hL hg.symm).mono fun e w' ⟨q1, q2, q3⟩ => ⟨q1, ⟨b, m, l, gc, nf, q2, hA1, hA2⟩, q3⟩
    · rw [if_neg ha]
      obtain ⟨hn0, hn1⟩ := min_ge hats
      obtain ⟨nx, hnx⟩ : ∃ nx, minD 4503599627370496 L = nx := ⟨_, rfl⟩
      rw [hnx] at hn0 hn1 ha ⊢
      have hno : (ar && decide (gc = nx)) = false := by
        cases ar with
        | false => rfl
        | true =>
          have := (hA2 rfl).1
          rw [Bool.true_and]
          exact decide_eq_false fun h9 => ha ⟨rfl, by omega⟩
      have hok2 := hok
      obtain ⟨g1, g2, g3⟩ := hok2
      unfold planW
      by_cases hq : aimT mn mx now nx ≤ 4503599627370496
      · rw [if_pos hq]
        by_cases hp : nx ≤ now
        · have hw : aimT mn mx now nx = now := if_pos (by omega)
          rw [hw]
          exact (slook_arm g room mn mx now L P tn b m l now nx ar gc nf _ _ _ _ _ _ w hR hT hL hnx hno rfl rfl (fun X => sarm_past now now b mn mx nx m l X h0 (Int.le_refl _) (by omega) h1 hok hn0 hp)).mono fun e w' ⟨q1, q2, q3⟩ =>
            ⟨q1, ⟨_, _, _, _, _, q2, fun h9 => (by cases h9), fun _ => ⟨rfl, .inl ⟨rfl, rfl⟩⟩⟩, q3⟩
        · have hk : (aimK mn mx now nx == 1) = false := by
            unfold aimK
            rw [if_neg (by omega)]
            split
            · rfl
            · split <;> rfl
          have hlt : now < aimT mn mx now nx ∧ aimT mn mx now nx ≤ now + 2147483648 := by
            unfold aimT
            repeat' split
            all_goals omega
          refine (slook_arm g room mn mx now L P tn b m l now nx ar gc nf _ _ _ _ _ _ w hR hT hL hnx hno rfl rfl (fun X => sarm_ok now now b mn mx nx m l X h0 (Int.le_refl _) (by omega) h1 hok hn1 (by omega) hq)).mono fun e w' ⟨q1, q2, q3⟩ => ?_
          rw [hk] at q2
          exact ⟨q1, ⟨_, _, _, _, _, q2, fun h9 => (by cases h9), fun _ => ⟨rfl, .inr ⟨rfl, rfl, hlt.1, hlt.2, rfl⟩⟩⟩, q3⟩
      · rw [if_neg hq]
        have hlt : 4503599627370496 < now + 2147483648 := by
          unfold aimT at hq
          split at hq
          · omega
          · split at hq
            · omega
            · split at hq <;> omega
        refine (slook_late g room mn mx now L P tn b m l now nx ar gc nf _ _ _ _ _ _ w hR hT hL hnx hno (fun X => sarm_late now now b mn mx nx m l X h0 (Int.le_refl _) (by omega) h1 hok hn1 hn0 hq)).mono fun e w' ⟨q1, q2, q3⟩ => ?_
        by_cases he : now = 4503599627370496
        · have h8 : (now == 4503599627370496) = true := by rw [he]; rfl
          rw [h8] at q2
          exact ⟨q1, ⟨_, _, _, _, _, q2, fun h9 => (by cases h9), fun _ => ⟨rfl, .inl ⟨rfl, he.symm⟩⟩⟩, q3⟩
        · have h8 : (now == 4503599627370496) = false := beq_eq_false_iff_ne.2 he
          rw [h8] at q2
          exact ⟨q1, ⟨_, _, _, _, _, q2, fun h9 => (by cases h9), fun _ => ⟨rfl, .inr ⟨rfl, rfl, by show now < 4503599627370496; omega, by show (4503599627370496 : Int) ≤ now + 2147483648; omega, rfl⟩⟩⟩, q3⟩
/-- The state behind a call that looks. -/
def lookedS (mn mx c : Int) (s : Sst) : Sst := if c = 0 then lookS mn mx s else s
set_option maxHeartbeats 4000000 in
theorem slooked_any (g : SvF) (room : Nat) (mn mx : Int) (s : Sst) (c : Int) (tn : Nat) (w : World) (h : SvS w g room mn mx s.now s tn) (hok : TmOk mn mx) (h0 : 0 ≤ s.now) (h1 : s.now ≤ 4503599627370496) (hT : Tab w) :
    Calls Tryz.prog 28 #[.pointer (some ⟨g.ps, 0, none⟩), .int .i64 c] w fun e w' => e = .returned (.int .i64 c) ∧ SvS w' g room mn mx s.now (lookedS mn mx c s) tn ∧ Tn [g.ps] w w' := by
  have f1 := Lib.hid (slook_any g room mn mx s tn w h hok h0 h1 hT)
  have H := Lib.hid h
  clear h hT hok h0 h1
  unfold lookedS
  by_cases hc : c = 0
  · subst hc
    rw [if_pos rfl]
    generalize lookS mn mx s = s2 at *
    go_enter Tryz.func28, Tryz.ntmps28
    go_wp2_with (go_at_call 44; (with_reducible refine f1.out.mono ?_); rintro e w1 ⟨rfl, hs1, ht1⟩; have HS1 := Lib.hid hs1; have HT1 := Lib.hid ht1; clear hs1 ht1)
    go_ret
    exact ⟨rfl, HS1.out, HT1.out⟩
  · rw [if_neg hc]
    have hcb : (c == 0) = false := beq_eq_false_iff_ne.2 hc
    clear hc f1
    go_enter Tryz.func28, Tryz.ntmps28
    go_wp2
    go_ret
    exact ⟨rfl, H.out, Tn.refl _ _⟩
theorem start_eq (room : Nat) (mn mx : Int) (s : Sst) (id a : Int) : lookedS mn mx (insC room s.L id a) { s with L := insL room s.L id a } = startS room mn mx s id a := by
  unfold lookedS startS
  by_cases hc : insC room s.L id a = 0
  · rw [if_pos hc, if_pos hc]
  · rw [if_neg hc, if_neg hc, show insL room s.L id a = s.L from if_neg hc]
theorem every_eq (room : Nat) (mn mx : Int) (s : Sst) (id a p : Int) : lookedS mn mx (everyC room s.L id a p) { s with L := everyL room s.L id a p, P := everyP room s.L s.P id a p } = everyS room mn mx s id a p := by
  unfold lookedS everyS
  by_cases hc : everyC room s.L id a p = 0
  · rw [if_pos hc, if_pos hc]
  · have h1 : everyP room s.L s.P id a p = s.P := if_neg hc
    have h2 : everyL room s.L id a p = s.L := by
      unfold everyL
      split
      · rename_i hp
        unfold everyC at hc
        rw [if_pos hp] at hc
        exact if_neg hc
      · rfl
    rw [if_neg hc, if_neg hc, h1, h2]
theorem stop_eq (mn mx : Int) (s : Sst) (id : Int) (hI : PI s.L s.P) : lookedS mn mx (canC s.L id) { s with L := canL s.L id, P := woD s.P id } = stopS mn mx s id := by
  unfold lookedS stopS
  by_cases hc : canC s.L id = 0
  · rw [if_pos hc, if_pos hc]
  · have hh : ¬ hasD s.L id = true := fun h9 => hc (if_pos h9)
    have h1 : canL s.L id = s.L := List.filter_eq_self.2 fun x hx => by
      simp only [ne_eq, decide_eq_true_eq]
      exact fun e => hh ((has_iff' _ _).2 ⟨x, hx, e⟩)
    have h2 : woD s.P id = s.P := List.filter_eq_self.2 fun x hx => by
      simp only [ne_eq, decide_eq_true_eq]
      exact fun e => hh (by rw [← e]; exact hI.has x hx)
    rw [if_neg hc, if_neg hc, h1, h2]
set_option maxHeartbeats 4000000 in
theorem sstart_any (g : SvF) (room : Nat) (mn mx : Int) (s : Sst) (id a : Int) (tn : Nat) (w : World) (h : SvS w g room mn mx s.now s tn) (hi : I64N id) (ht : tn ≤ 1152921504606846976) (hok : TmOk mn mx) (h0 : 0 ≤ s.now) (h1 : s.now ≤ 4503599627370496) (hT : Tab w) (hg : 0 ∉ g.l) :
    Calls Tryz.prog 11 #[.pointer (some ⟨g.ps, 0, none⟩), .int .i64 id, .int .i64 a] w fun e w' => e = .returned (.int .i64 (insC room s.L id a)) ∧ SvS w' g room mn mx s.now (startS room mn mx s id a) (tn + 1) ∧ Tn g.l w w' := by
  rw [← start_eq]
  obtain ⟨b, m, l, gc, nf, hR, hA⟩ := h
  have f1 := Lib.hid (tstart_any g.t room s.now s.L s.P tn w id a hR.tms hi ht)
  have HT := Lib.hid hT
  have HN : Hid (∀ X, Tms X g.t room s.now (insL room s.L id a) s.P (tn + 1) → Tn g.t.l w X → SvS X g room mn mx s.now { s with L := insL room s.L id a } (tn + 1)) := Lib.hid (fun X q1 q2 => ⟨b, m, l, gc, nf, hR.timers q1 q2, hA⟩)
  have f2 := Lib.hid (fun X hX hTX => slooked_any g room mn mx { s with L := insL room s.L id a } (insC room s.L id a) (tn + 1) X hX hok h0 h1 hTX)
  have HTX : Hid (∀ X, Tn g.t.l w X → Tab X) := Lib.hid (fun X q => fun j hj => q.cell (HT.out j hj) (fun hm => hg (by simp [SvF.l, hm])))
  generalize lookedS mn mx (insC room s.L id a) { s with L := insL room s.L id a } = s2 at *
  generalize insC room s.L id a = c at *
  clear hg hT h0 h1 hok ht hi
  obtain ⟨xx, xy⟩ := box_rules hR.box
  have lx := box_lt hR.box
  clear hR hA
  go_enter Tryz.func11, Tryz.ntmps11
  go_wp2_with (first
    | (go_at_call 29; (with_reducible refine f1.out.mono ?_); rintro e w1 ⟨rfl, hm1, ht1⟩; have HS1 := Lib.hid (HN.out _ hm1 ht1); have HT1 := Lib.hid ht1; clear hm1 ht1)
    | (go_at_call 28; (with_reducible refine (f2.out _ HS1.out (HTX.out _ HT1.out)).mono ?_); rintro e w2 ⟨rfl, hs2, ht2⟩; have HS2 := Lib.hid hs2; have HT2 := Lib.hid ((SvF.tnt g HT1.out).trans (SvF.tn1 g ht2)); clear hs2 ht2))
  go_ret
  exact ⟨rfl, HS2.out, HT2.out⟩
set_option maxHeartbeats 4000000 in
theorem severy_any (g : SvF) (room : Nat) (mn mx : Int) (s : Sst) (id a p : Int) (tn : Nat) (w : World) (h : SvS w g room mn mx s.now s tn) (hI : PI s.L s.P) (hi : I64N id) (ht : tn ≤ 1152921504606846976) (hok : TmOk mn mx) (h0 : 0 ≤ s.now) (h1 : s.now ≤ 4503599627370496) (hT : Tab w) (hg : 0 ∉ g.l) :
    Calls Tryz.prog 13 #[.pointer (some ⟨g.ps, 0, none⟩), .int .i64 id, .int .i64 a, .int .i64 p] w fun e w' => e = .returned (.int .i64 (everyC room s.L id a p)) ∧ SvS w' g room mn mx s.now (everyS room mn mx s id a p) (tn + 1) ∧ Tn g.l w w' := by
  rw [← every_eq]
  obtain ⟨b, m, l, gc, nf, hR, hA⟩ := h
  have f1 := Lib.hid (tevery_any g.t room s.now s.L s.P tn w id a p hR.tms hI hi ht)
  have HT := Lib.hid hT
  have HN : Hid (∀ X, Tms X g.t room s.now (everyL room s.L id a p) (everyP room s.L s.P id a p) (tn + 1) → Tn g.t.l w X → SvS X g room mn mx s.now { s with L := everyL room s.L id a p, P := everyP room s.L s.P id a p } (tn + 1)) := Lib.hid (fun X q1 q2 => ⟨b, m, l, gc, nf, hR.timers q1 q2, hA⟩)
  have f2 := Lib.hid (fun X hX hTX => slooked_any g room mn mx { s with L := everyL room s.L id a p, P := everyP room s.L s.P id a p } (everyC room s.L id a p) (tn + 1) X hX hok h0 h1 hTX)
  have HTX : Hid (∀ X, Tn g.t.l w X → Tab X) := Lib.hid (fun X q => fun j hj => q.cell (HT.out j hj) (fun hm => hg (by simp [SvF.l, hm])))
  generalize lookedS mn mx (everyC room s.L id a p) { s with L := everyL room s.L id a p, P := everyP room s.L s.P id a p } = s2 at *
  generalize everyC room s.L id a p = c at *
  clear hg hT h0 h1 hok ht hi hI
  obtain ⟨xx, xy⟩ := box_rules hR.box
  have lx := box_lt hR.box
  clear hR hA
  go_enter Tryz.func13, Tryz.ntmps13
  go_wp2_with (first
    | (go_at_call 33; (with_reducible refine f1.out.mono ?_); rintro e w1 ⟨rfl, hm1, ht1⟩; have HS1 := Lib.hid (HN.out _ hm1 ht1); have HT1 := Lib.hid ht1; clear hm1 ht1)
    | (go_at_call 28; (with_reducible refine (f2.out _ HS1.out (HTX.out _ HT1.out)).mono ?_); rintro e w2 ⟨rfl, hs2, ht2⟩; have HS2 := Lib.hid hs2; have HT2 := Lib.hid ((SvF.tnt g HT1.out).trans (SvF.tn1 g ht2)); clear hs2 ht2))
  go_ret
  exact ⟨rfl, HS2.out, HT2.out⟩
set_option maxHeartbeats 4000000 in
theorem sstop_any (g : SvF) (room : Nat) (mn mx : Int) (s : Sst) (id : Int) (tn : Nat) (w : World) (h : SvS w g room mn mx s.now s tn) (hI : PI s.L s.P) (hi : I64N id) (hok : TmOk mn mx) (h0 : 0 ≤ s.now) (h1 : s.now ≤ 4503599627370496) (hT : Tab w) (hg : 0 ∉ g.l) :
    Calls Tryz.prog 14 #[.pointer (some ⟨g.ps, 0, none⟩), .int .i64 id] w fun e w' => e = .returned (.int .i64 (canC s.L id)) ∧ SvS w' g room mn mx s.now (stopS mn mx s id) tn ∧ Tn g.l w w' := by
  rw [← stop_eq mn mx s id hI]
  obtain ⟨b, m, l, gc, nf, hR, hA⟩ := h
  have f1 := Lib.hid (tstop_any g.t room s.now s.L s.P tn w id hR.tms hI hi)
  have HT := Lib.hid hT
  have HN : Hid (∀ X, Tms X g.t room s.now (canL s.L id) (woD s.P id) tn → Tn g.t.l w X → SvS X g room mn mx s.now { s with L := canL s.L id, P := woD s.P id } tn) := Lib.hid (fun X q1 q2 => ⟨b, m, l, gc, nf, hR.timers q1 q2, hA⟩)
  have f2 := Lib.hid (fun X hX hTX => slooked_any g room mn mx { s with L := canL s.L id, P := woD s.P id } (canC s.L id) tn X hX hok h0 h1 hTX)
  have HTX : Hid (∀ X, Tn g.t.l w X → Tab X) := Lib.hid (fun X q => fun j hj => q.cell (HT.out j hj) (fun hm => hg (by simp [SvF.l, hm])))
  generalize lookedS mn mx (canC s.L id) { s with L := canL s.L id, P := woD s.P id } = s2 at *
  generalize canC s.L id = c at *
  clear hg hT h0 h1 hok hi hI
  obtain ⟨xx, xy⟩ := box_rules hR.box
  have lx := box_lt hR.box
  clear hR hA
  go_enter Tryz.func14, Tryz.ntmps14
  go_wp2_with (first
    | (go_at_call 34; (with_reducible refine f1.out.mono ?_); rintro e w1 ⟨rfl, hm1, ht1⟩; have HS1 := Lib.hid (HN.out _ hm1 ht1); have HT1 := Lib.hid ht1; clear hm1 ht1)
    | (go_at_call 28; (with_reducible refine (f2.out _ HS1.out (HTX.out _ HT1.out)).mono ?_); rintro e w2 ⟨rfl, hs2, ht2⟩; have HS2 := Lib.hid hs2; have HT2 := Lib.hid ((SvF.tnt g HT1.out).trans (SvF.tn1 g ht2)); clear hs2 ht2))
  go_ret
  exact ⟨rfl, HS2.out, HT2.out⟩
end Go.Proofs.YtiblpnadninmbaaGreatDoor
/- Package tickless: the walk of ring. Conditions: a service's memory, the de Bruijn table. -/
namespace Go.Proofs.YtiblpnadninmbaaGreatDoor
open Go.RowKit Go.Shelf
attribute [local go_sem] Oper.semAt_some
/-- What ring hands back. -/
def RetRg (g : SvF) (room : Nat) (mn mx W : Int) (M : List Fi) (s2 : Sst) (tn : Nat) (w : World) (e : Ending) (w' : World) : Prop :=
  ∃ A c, e = .returned (.slice A M.length c) ∧ Rd w' A (M.flatMap fic) ∧ (∀ a, A = some a → w.heap.size ≤ a.block) ∧ SvS w' g room mn mx W s2 tn ∧ Tn g.l w w'
def RetTr (g : TmF) (room : Nat) (W : Int) (M : List Fi) (L2 : List Du) (P2 : List Pe) (tn : Nat) (w : World) (e : Ending) (w' : World) : Prop :=
  ∃ A c, e = .returned (.tuple #[.slice A M.length c, .int .i64 0]) ∧ Rd w' A (M.flatMap fic) ∧ (∀ a, A = some a → w.heap.size ≤ a.block) ∧ Tms w' g room W L2 P2 tn ∧ Tn g.l w w'
theorem trun_ok (g : TmF) (room : Nat) (now : Int) (L : List Du) (P : List Pe) (tn : Nat) (w : World) (W : Int) (h : Tms w g room now L P tn) (hT : Tab w) (hg : 0 ∉ g.f.l) (ht : tn + 1024 ≤ 1152921504606846976) (hc : now ≤ W ∧ W ≤ 4503599627370496) :
    Calls Tryz.prog 51 #[.pointer (some ⟨g.pt, 0, none⟩), .int .i64 W] w (RetTr g room W (runT room W 1024 L P).1 (runT room W 1024 L P).2.1 (runT room W 1024 L P).2.2 (tn + 1024) w) := by
  have h8 := trun_any g room now L P tn w W h hT hg ht
  unfold RetRun at h8
  simp only [if_pos hc] at h8
  exact h8
set_option maxHeartbeats 8000000 in
set_option maxRecDepth 100000 in
theorem sring_any (g : SvF) (room : Nat) (mn mx T : Int) (L : List Du) (P : List Pe) (tn : Nat) (b : Int) (m l : Bool) (now : Int) (ar : Bool) (gc : Int) (nf : Bool) (w : World) (h : SvR w g room mn mx T L P tn b m l now ar gc nf) (hok : TmOk mn mx) (h0 : 0 ≤ now) (h1 : now ≤ 4503599627370496) (hle : T ≤ now) (hT : Tab w) (hg : 0 ∉ g.l) (ht : tn + 1024 ≤ 1152921504606846976) :
    Calls Tryz.prog 31 #[.pointer (some ⟨g.ps, 0, none⟩)] w (RetRg g room mn mx now (ranS room mn mx now L P).1 (ranS room mn mx now L P).2 (tn + 1024) w) := by
  have HTX : Hid (∀ X, Tn g.l w X → Tab X) := Lib.hid (fun X q => fun j hj => q.cell (hT j hj) hg)
  have hgt : 0 ∉ g.t.f.l := fun hm => hg (by simp [SvF.l, TmF.l, hm])
  have f3 := Lib.hid (fun X hX hTX => trun_ok g.t room T L P tn X now hX hTX hgt ht ⟨hle, h1⟩)
  unfold ranS
  dsimp only
  obtain ⟨R, hR⟩ : ∃ R, runT room now 1024 L P = R := ⟨_, rfl⟩
  rw [hR] at f3 ⊢
  obtain ⟨M, L2, P2⟩ := R
  dsimp only at *
  have f5 := Lib.hid (fun X hX hTX => slook_any g room mn mx ⟨L2, P2, now, false, 0, 0⟩ (tn + 1024) X hX hok h0 h1 hTX)
  have HS0 : Hid (∀ X b l gc, SvR X g room mn mx now L2 P2 (tn + 1024) b false l now false gc false → SvS X g room mn mx now ⟨L2, P2, now, false, 0, 0⟩ (tn + 1024)) := Lib.hid (fun X b l gc q => ⟨b, false, l, gc, false, q, fun _ => rfl, fun h9 => (by cases h9)⟩)
  dsimp only at f5
  generalize lookS mn mx ⟨L2, P2, now, false, 0, 0⟩ = s2 at *
  have H := Lib.hid h
  have hbox := h.box
  obtain ⟨cn, hcn⟩ : ∃ cn, now % 4294967296 = cn := ⟨_, rfl⟩
  rw [hcn] at hbox
  have HCn := Lib.hid hcn
  have HBx := Lib.hid hbox
  have f1 := Lib.hid (fun X => ack_any cn b m l X)
  unfold hwv at f1
  have fN := Lib.hid (fun X hX => snow_any g room mn mx T L P tn b m false now ar gc nf X hX)
  have f4 := Lib.hid (fun X hX => srest_any g room mn mx now L2 P2 (tn + 1024) b m false now ar gc nf X hX)
  obtain ⟨xx, xy⟩ := box_rules HBx.out
  have lx := box_lt HBx.out
  clear h hbox hcn hR hok h0 h1 hle hT hg ht hgt
  unfold RetTr at f3
  unfold RetRg
  go_enter Tryz.func31, Tryz.ntmps31
  go_upto_region 2 with (go_at_call 50; (with_reducible refine (f1.out _).mono ?_); rintro e w1 ⟨rfl, hb1⟩; have HB1 := Lib.hid (box_keep HBx.out hb1); have HT1 := Lib.hid (Tn.of_below [g.ps] hb1); clear hb1 xx xy lx; obtain ⟨xx, xy⟩ := box_rules HB1.out; have lx := box_lt HB1.out)
  refine name_world fun V hV => ?_
  have hE := box_set (i := 5) (box_set (i := 4) (box_set (i := 3) (box_set (i := 2) HB1.out (.int .u32 cn)) (.int .u32 b)) (.bool m)) (.bool false)
  have hT := tset (i := 5) (tset (i := 4) (tset (i := 3) (tset (i := 2) HT1.out (List.mem_singleton.2 rfl) (.int .u32 cn)) (List.mem_singleton.2 rfl) (.int .u32 b)) (List.mem_singleton.2 rfl) (.bool m)) (List.mem_singleton.2 rfl) (.bool false)
  rw [← hV] at hE hT
  have HRV : Hid (SvR V g room mn mx T L P tn b m false now ar gc nf) := Lib.hid (H.out.turn1 hT (by rw [HCn.out]; exact hE))
  have HTV := Lib.hid (SvF.tn1 g hT)
  clear hE hT hV xx xy lx
  obtain ⟨xx, xy⟩ := box_rules HRV.out.box
  have lx := box_lt HRV.out.box
  go_cut [3] (fun v wx => ∃ A c, v = .slice A M.length c ∧ Hid (Rd wx A (M.flatMap fic)) ∧ Hid (∀ a, A = some a → w.heap.size ≤ a.block) ∧ Hid (SvR wx g room mn mx now L2 P2 (tn + 1024) b m false now ar gc nf) ∧ Hid (Tn g.l w wx))
  case first =>
    go_region_with ((first
      | (go_at_call 9; (with_reducible refine (fN.out _ HRV.out.drew1).mono ?_); rintro e w2 ⟨rfl, rfl⟩)
      | (go_at_call 51; (with_reducible refine (f3.out _ HRV.out.drew1.tms (HTX.out _ HTV.out.drew)).mono ?_); rintro e w3 ⟨A, c, rfl, hr3, ha3, hm3, ht3⟩; have HR3 := Lib.hid hr3; have HM3 := Lib.hid (HRV.out.drew1.timers hm3 ht3); have HT3 := Lib.hid (HTV.out.drew.trans (SvF.tnt g ht3)); have HA3 := Lib.hid (fun a ha => Nat.le_trans HTV.out.size (ha3 a ha)); clear hr3 ha3 hm3 ht3)))
    all_goals
      go_wp2_with fail
      go_meet
      exact ⟨A, c, rfl, HR3, HA3, HM3, HT3⟩
  case rest =>
  obtain ⟨A, c, rfl, HR3, HA3, HM3, HT3⟩ := hcut
  clear xx xy lx fN f1 f3
  have HGl : Hid (∀ k ∈ g.l, k < w.heap.size) := Lib.hid H.out.lt
  go_wp2_with (first
    | (go_at_call 52; (with_reducible refine (f4.out _ HM3.out).mono ?_); rintro e w4 ⟨rfl, hr4, ht4⟩; have HS4 := Lib.hid (HS0.out _ _ _ _ hr4); have HR4 := Lib.hid (HR3.out.tn (SvF.tn1 g ht4) (fun a ha hm => by have := HA3.out a ha; have := HGl.out _ hm; omega)); have HT4 := Lib.hid (HT3.out.trans (SvF.tn1 g ht4)); clear hr4 ht4)
    | (go_at_call 44; (with_reducible refine (f5.out _ HS4.out (HTX.out _ HT4.out)).mono ?_); rintro e w5 ⟨rfl, hs5, ht5⟩; have HS5 := Lib.hid hs5; have HR5 := Lib.hid (HR4.out.tn (SvF.tn1 g ht5) (fun a ha hm => by have := HA3.out a ha; have := HGl.out _ hm; omega)); have HT5 := Lib.hid (HT4.out.trans (SvF.tn1 g ht5)); clear hs5 ht5))
  go_ret
  exact ⟨A, c, rfl, HR5.out, HA3.out, HS5.out, HT5.out⟩
end Go.Proofs.YtiblpnadninmbaaGreatDoor

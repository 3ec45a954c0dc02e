/- Package vet: the walk of what looks hands back: all things that are looked at, each with its error. Conditions: lists that read. -/
import Derived.Test.YtgampofpabllbaaVetF
import Derived.Test.YtgampofpabllbaaVetA
namespace Go.Proofs.Ytgampofpabllbaa
open Go.RowKit Go.Shelf
attribute [local go_sem] Oper.semAt_some

theorem S_refl' (W : World) : Hid (Below W.heap.size W W) := Below.refl _ _
theorem S_call' {W w w' : World} (h : Hid (Below W.heap.size W w)) (hb : Below w.heap.size w w') : Hid (Below W.heap.size W w') := h.out.trans (hb.mono h.out.size)
theorem S_alloc' {W w : World} (h : Hid (Below W.heap.size W w)) (o : Obj) : Hid (Below W.heap.size W (w.alloc o)) := h.out.alloc h.out.size o
theorem S_drew' {W w : World} (h : Hid (Below W.heap.size W w)) : Hid (Below W.heap.size W w.drew) := h.out.drew

theorem prios_any (mn mx sw : Int) (A : Option Addr) (nt ca : Nat) (B : Option Addr) (nl cb : Nat) (D : Option Addr) (nh cd : Nat) (w : World) :
    Calls Try.prog 37 #[cfv mn mx sw A nt ca B nl cb D nh cd] w fun e w' => e = .returned (.func (.func 41) #[] #[.pointer (some ⟨w.heap.size, 0, none⟩)]) ∧
      w.alloc (.cells #[.int .i64 mn, .int .i64 mx, .int .i64 sw, .slice A nt ca, .slice B nl cb, .slice D nh cd] 28) = w' := by
  unfold cfv
  go_enter Try.func37, Try.ntmps37
  go_wp2
  go_ret
  exact ⟨rfl, rfl⟩
theorem looks_any (mn mx sw : Int) (A : Option Addr) (nt ca : Nat) (B : Option Addr) (nl cb : Nat) (D : Option Addr) (nh cd : Nat) (w : World) :
    Calls Try.prog 21 #[cfv mn mx sw A nt ca B nl cb D nh cd] w fun e w' => e = .returned (.func (.func 30) #[] #[.pointer (some ⟨w.heap.size, 0, none⟩)]) ∧
      w.alloc (.cells #[.int .i64 mn, .int .i64 mx, .int .i64 sw, .slice A nt ca, .slice B nl cb, .slice D nh cd] 28) = w' := by
  unfold cfv
  go_enter Try.func21, Try.ntmps21
  go_wp2
  go_ret
  exact ⟨rfl, rfl⟩

theorem numb_take {p : Int} {ys : List Int} {k : Nat} (hk : k < ys.length) : (numb p 0 ys).take (k + 1) = (numb p 0 ys).take k ++ [⟨p, k, ys.getD k 0⟩] := by
  have e : numb p 0 ys = numb p 0 (ys.take k) ++ (⟨p, k, ys.getD k 0⟩ :: numb p (k + 1) (ys.drop (k + 1))) := by
    conv => lhs; rw [← List.take_append_drop k ys, numb_append, List.drop_eq_getElem_cons hk]
    simp [numb, List.getD, hk, Nat.min_eq_left (Nat.le_of_lt hk)]
  have l : (numb p 0 (ys.take k)).length = k := by rw [numb_length, List.length_take]; omega
  rw [e, List.take_append, List.take_append, l]
  simp [List.take_of_length_le (Nat.le_of_eq l)]
  rw [List.take_of_length_le (by omega)]
theorem take_succ_cons {α : Type} {l : List α} {k : Nat} (h : k < l.length) (d : α) : l.take (k + 1) = l.take k ++ [l.getD k d] := by
  rw [List.take_succ_eq_append_getElem h]
  simp [List.getD, h]
theorem seg_take {α : Type} (p : Int) (f : α → Int) (l : List α) (d : α) {k : Nat} (hk : k < l.length) : (numb p 0 (l.map f)).take (k + 1) = (numb p 0 (l.map f)).take k ++ [⟨p, k, f (l.getD k d)⟩] := by
  rw [numb_take (by rw [List.length_map]; exact hk)]
  simp [List.getD, hk]
theorem seg_len {α : Type} (p : Int) (f : α → Int) (l : List α) : (numb p 0 (l.map f)).length = l.length := by rw [numb_length, List.length_map]
theorem pre_seg {α : Type} {P seg rest looks : List α} (h : looks = P ++ (seg ++ rest)) (k : Nat) : P ++ seg.take k <+: looks := by
  subst h
  refine ⟨seg.drop k ++ rest, ?_⟩
  rw [List.append_assoc, ← List.append_assoc (seg.take k), List.take_append_drop]
theorem rd_box {w : World} {b : Nat} {cs : Array Value} {t : TypeId} {z : Nat × Nat} (h : w.heap[b]? = some (.cells cs t z)) : Rd w (some ⟨b, 0, none⟩) cs.toList := fun i u hu =>
  ⟨_, rfl, by rw [add_zero_lit, Nat.zero_add, cell_of_row _ _ _ _ _ _ h]; simpa using hu⟩
theorem Rd.flAt {w : World} {A : Option Addr} {ls : List Fl} (h : Rd w A (ls.flatMap flc)) {k : Nat} (hk : k < ls.length) : ∃ a x, A = some a ∧ ls.getD k ⟨0, 0, 0⟩ = x ∧
    w.cell? (a.add (k * 3)) = some (.int .u8 x.part) ∧ w.cell? ⟨(a.add (k * 3)).block, (a.add (k * 3)).off + 1, none⟩ = some (.int .i64 x.idx) ∧
    w.cell? ⟨(a.add (k * 3)).block, (a.add (k * 3)).off + 2, none⟩ = some (.int .i64 x.why) := by
  have g := flatMap_get (f := flc) (k := 3) (fun _ => rfl) ⟨0, 0, 0⟩ ls k hk
  generalize ls.getD k ⟨0, 0, 0⟩ = x at *
  obtain ⟨a, rfl, h0⟩ := h _ _ (g 0 (by omega))
  obtain ⟨_, ha1, h1⟩ := h _ _ (g 1 (by omega)); cases ha1
  obtain ⟨_, ha1, h2⟩ := h _ _ (g 2 (by omega)); cases ha1
  rw [add_plus _ _ _ (by omega)] at h1 h2
  exact ⟨a, x, rfl, rfl, h0, h1, h2⟩

/-- What the loops of looks hold. -/
structure LkI (w0 W wr : World) (Bc : Nat) (cs : Array Value) : Prop where
  box : wr.heap[Bc]? = some (.cells cs 28 (0, 0))
  low : Below w0.heap.size w0 wr
  size : W.heap.size ≤ wr.heap.size
theorem LkI.below {w0 W w w' : World} {Bc : Nat} {cs : Array Value} (h : LkI w0 W w Bc cs) (hb : Below w.heap.size w w') : LkI w0 W w' Bc cs := ⟨box_keep h.box hb, h.low.trans (hb.mono h.low.size), Nat.le_trans h.size hb.size⟩
theorem LkI.own {w0 W w w' : World} {Bc nB : Nat} {cs : Array Value} (h : LkI w0 W w Bc cs) (hk : KeepsOwn w0.heap.size nB w w') (hB : nB ≤ Bc) : LkI w0 W w' Bc cs := ⟨hk.cells hB h.box, h.low.trans hk.below, Nat.le_trans h.size hk.below.size⟩

set_option maxHeartbeats 8000000 in
set_option maxRecDepth 100000 in
/-- What vet.looks hands back. -/
theorem looks_iter (mn mx sw : Int) (ts : List Tk) (ls : List Ln) (hs : List Th) (A : Option Addr) (ca : Nat) (B : Option Addr) (cb : Nat) (D : Option Addr) (cd : Nat) (Bc nB : Nat) (w0 w : World)
    (hlt : ts.length ≤ 1048576) (hll : ls.length ≤ 1048576) (hlh : hs.length ≤ 1048576) (h0 : Below w0.heap.size w0 w) (hnB : w0.heap.size ≤ nB) (hBc : nB ≤ Bc)
    (hc : w.heap[Bc]? = some (.cells #[.int .i64 mn, .int .i64 mx, .int .i64 sw, .slice A ts.length ca, .slice B ls.length cb, .slice D hs.length cd] 28 (0, 0)))
    (ht : Rd w0 A (ts.flatMap tkc)) (hl : Rd w0 B (ls.flatMap lnc)) (hh : Rd w0 D (hs.flatMap thc)) (hmx : I64 mx) (ht64 : ∀ p ∈ ts.map (·.prio) ++ hs.map (·.prio), I64 p) :
    IterK Try.prog 30 #[.pointer (some ⟨Bc, 0, none⟩)] (fun f : Fl => #[flv f]) w0.heap.size nB (fun xs => xs = Cf.looks ⟨mn, mx, sw, ts, ls, hs⟩)
      (fun pre => pre <+: Cf.looks ⟨mn, mx, sw, ts, ls, hs⟩) (3 + ts.length + ls.length + hs.length + (ts.length + hs.length)) w := fun l J Jx W hW hJ hJx hY hJ0 => by
  have lc0 := box_lt hc
  have HI := Lib.hid (show LkI w0 W W Bc _ from ⟨box_keep hc hW, h0.trans (hW.mono h0.size), Nat.le_refl _⟩)
  have hWs : nB ≤ W.heap.size := Nat.le_trans hBc (Nat.le_of_lt (Nat.lt_of_lt_of_le lc0 hW.size))
  have Ht := Lib.hid ht; have Hl := Lib.hid hl; have Hh := Lib.hid hh; have H64 := Lib.hid ht64; have HJ := Lib.hid hJ; have HJx := Lib.hid hJx; have HY := Lib.hid hY; have HJ0 := Lib.hid hJ0
  clear hc h0 hW ht hl hh ht64 hJ hJx hY hJ0
  have c1 := Lib.hid (fun w => shot_any mn mx hmx w)
  have c2 := Lib.hid (fun w => change_any mn mx sw A ts.length ca B ls.length cb D hs.length cd w)
  have c3 := Lib.hid (fun w => many_any mn mx sw A ts.length ca B ls.length cb D hs.length cd w)
  have c4 := Lib.hid (fun w => found_any 1 0 (tmWhy mn mx) w)
  have c5 := Lib.hid (fun w => found_any 2 0 (chWhy sw) w)
  have c6 := Lib.hid (fun w => found_any 3 0 (mnWhy ts.length ls.length hs.length) w)
  unfold cfv at c2 c3
  have HH : Hid ((Cf.heads ⟨mn, mx, sw, ts, ls, hs⟩).flatMap flc = [.int .u8 1, .int .i64 0, .int .i64 (tmWhy mn mx), .int .u8 2, .int .i64 0, .int .i64 (chWhy sw), .int .u8 3, .int .i64 0, .int .i64 (mnWhy ts.length ls.length hs.length)]) := Lib.hid rfl
  have HL : Hid (Cf.looks ⟨mn, mx, sw, ts, ls, hs⟩ = Cf.heads ⟨mn, mx, sw, ts, ls, hs⟩ ++ (numb 4 0 (ts.map fun t => tkWhy t sw) ++ (numb 5 0 (ls.map lnWhy) ++ (numb 6 0 (hs.map thWhy) ++ numb 7 0 (prWhys [] (ts.map (·.prio) ++ hs.map (·.prio))))))) := Lib.hid rfl
  have HN : Hid ((Cf.heads ⟨mn, mx, sw, ts, ls, hs⟩).length = 3) := Lib.hid rfl
  generalize tmWhy mn mx = y1 at *
  generalize chWhy sw = y2 at *
  generalize mnWhy ts.length ls.length hs.length = y3 at *
  generalize Cf.heads ⟨mn, mx, sw, ts, ls, hs⟩ = heads at *
  generalize Cf.looks ⟨mn, mx, sw, ts, ls, hs⟩ = looks at *
  have hR := fun w' (h : Hid (Below W.heap.size W w')) => (box_rules (box_keep HI.out.box h.out)).1
  have hS0 := S_refl' W
  refine callsIn_of_wp Try.func30 rfl trivial ?_ rfl
  simp only [Try.ntmps30, List.size_toArray, List.length_cons, List.length_nil, Nat.reduceAdd, Nat.reduceSub, Array.replicate_succ, Array.replicate_zero, List.push_toArray, List.append_toArray, List.nil_append, List.cons_append]
  refine wpIn_wide.2 ?_
  go_wp2_with fail
  go_region_held3 (fun w' => Hid (Below W.heap.size W w')) ((first | assumption | exact S_alloc' (by assumption) _ | exact S_drew' (by assumption) | exact S_drew' (S_alloc' (by assumption) _))) ((first
    | (go_at_call 9; refine (c1.out _).mono ?_; rintro e w' ⟨rfl, hb⟩; have hk := S_call' (W := W) (by assumption) hb; clear hb)
    | (go_at_call 32; refine (c2.out _).mono ?_; rintro e w' ⟨rfl, hb⟩; have hk := S_call' (W := W) (by assumption) hb; clear hb)
    | (go_at_call 33; refine (c3.out _).mono ?_; rintro e w' ⟨rfl, hb⟩; have hk := S_call' (W := W) (by assumption) hb; clear hb)
    | (go_at_call 31; (first | ((with_reducible refine (c4.out _).mono ?_)) | ((with_reducible refine (c5.out _).mono ?_)) | ((with_reducible refine (c6.out _).mono ?_))); rintro e w' ⟨rfl, hb⟩; have hk := S_call' (W := W) (by assumption) hb; clear hb)))
  go_wp2_with fail
  refine name_world ?_
  intro V hV
  have HX : Hid (V.heap[w'.heap.size]? = some (.cells #[.int .u8 1, .int .i64 0, .int .i64 y1, .int .u8 2, .int .i64 0, .int .i64 y2, .int .u8 3, .int .i64 0, .int .i64 y3] 51 (0, 0))) := Lib.hid (by rw [hV]; exact heap_alloc_new _ _)
  have HV : Hid (Below W.heap.size W V) := by rw [hV]; exact S_alloc' (by assumption) _
  have hbl : nB ≤ w'.heap.size := Nat.le_trans hWs (Hid.out (by assumption : Hid (Below W.heap.size W w'))).size
  clear hV
  generalize hHb : w'.heap.size = Hb at *
  generalize hha : ({ block := Hb, off := 0 } : Addr) = ha at *
  have Hha := Lib.hid hha
  have HIV := Lib.hid (HI.out.below HV.out)
  clear hHb hha hR hS0 c1 c2 c3 c4 c5 c6
  obtain ⟨hcV, hcyV⟩ := box_rules HIV.out.box
  refine (wpIn_wide (n := 8)).1 ?_
  gi_loopw [25] (fun i wr => ∃ k : Nat, k ≤ 3 ∧ i = .int .i64 k ∧ J (heads.take k) wr ∧ LkI w0 W wr Bc #[.int .i64 mn, .int .i64 mx, .int .i64 sw, .slice A ts.length ca, .slice B ls.length cb, .slice D hs.length cd] ∧
    wr.heap[Hb]? = some (.cells #[.int .u8 1, .int .i64 0, .int .i64 y1, .int .u8 2, .int .i64 0, .int .i64 y2, .int .u8 3, .int .i64 0, .int .i64 y3] 51 (0, 0))) (fun i _ => 3 - (intOf i).toNat)
  case atStart => exact ⟨0, by omega, rfl, HJ.out _ _ _ none HJ0.out (below_grown HV.out) (fun _ h => by cases h), HIV.out, HX.out⟩
  case round =>
    obtain ⟨k, hk, rfl, hj, hi, hx⟩ := hrel
    have Hj := Lib.hid hj; have HIw := Lib.hid hi; have HXw := Lib.hid hx
    clear hj hi hx HX HIV HV hcV hcyV
    by_cases hlt' : k < 3
    · obtain ⟨a, x, ha1, hx, g0, g1, g2⟩ := Rd.flAt (ls := heads) (w := wr) (A := some ha) (by rw [HH.out, ← Hha.out]; exact rd_box HXw.out) (k := k) (by rw [HN.out]; exact hlt')
      obtain rfl : ha = a := by injection ha1
      have HS := Lib.hid (take_succ_cons (l := heads) (k := k) (by rw [HN.out]; exact hlt') ⟨0, 0, 0⟩)
      rw [hx] at HS
      clear ha1 hx
      obtain ⟨x0, x1, x2⟩ := x
      dsimp only at g0 g1 g2
      have HB4 := Lib.hid ((Below.refl wr.heap.size wr).alloc (Nat.le_refl _) (.cells #[.int .u8 x0, .int .i64 x1, .int .i64 x2] 51))
      have HI4 := Lib.hid (HIw.out.below HB4.out)
      have HX4 := Lib.hid (box_keep HXw.out HB4.out)
      obtain ⟨fn, tmps, assign, body, hy, hR⟩ := HY.out (heads.take k) ⟨x0, x1, x2⟩ _ (HJ.out _ _ _ none Hj.out (below_grown HB4.out) (fun _ h => by cases h)) (by rw [List.length_take, HN.out]; omega)
      dsimp only [flv] at hy
      have HR := Lib.hid hR; clear hR
      gi_wp2
      refine HR.out.mono ?_
      rintro e W3 (⟨rfl, hJ3, hk3⟩ | ⟨rfl, hJx3⟩)
      · gi_wp2
        go_roundw
        case rel => exact ⟨k + 1, by omega, by go_num, by rw [HS.out]; exact hJ3, HI4.out.own hk3 hBc, hk3.cells hbl HX4.out⟩
        case measure => simp [intOf]; omega
      · gi_wp2
        refine bodyPost_ret (results_none rfl _ _ _) rfl ?_
        exact ⟨⟨_, rfl⟩, .inr ⟨_, by rw [← HS.out, HL.out]; exact (List.take_prefix _ _).trans (List.prefix_append _ _), hJx3⟩⟩
    · obtain rfl : k = 3 := by omega
      rw [List.take_of_length_le (by rw [HN.out]; omega)] at Hj
      obtain ⟨hcx, hcy⟩ := box_rules HIw.out.box
      clear HXw
      gi_wp2
      go_wp2
      generalize hs2 : numb 4 0 (ts.map fun t => tkWhy t sw) = seg2 at *
      have HS2 : Hid (∀ k, k < ts.length → seg2.take (k + 1) = seg2.take k ++ [⟨4, k, tkWhy (ts.getD k tk0) sw⟩]) := Lib.hid (fun k hk => by rw [← hs2]; exact seg_take 4 (fun t => tkWhy t sw) ts tk0 hk)
      have HN2 : Hid (seg2.length = ts.length) := Lib.hid (by rw [← hs2]; exact seg_len _ _ _)
      clear hs2
      refine (wpIn_wide (n := 8)).1 ?_
      gi_loopw [37] (fun i wr => ∃ k : Nat, k ≤ ts.length ∧ i = .int .i64 k ∧ J (heads ++ seg2.take k) wr ∧ LkI w0 W wr Bc #[.int .i64 mn, .int .i64 mx, .int .i64 sw, .slice A ts.length ca, .slice B ls.length cb, .slice D hs.length cd]) (fun i _ => ts.length - (intOf i).toNat)
      case atStart => exact ⟨0, by omega, rfl, by rw [List.take_zero, List.append_nil]; exact Hj.out, HIw.out⟩
      case round =>
        obtain ⟨k, hk, rfl, hj, hi⟩ := hrel
        clear HIw Hj hcx hcy
        have Hj := Lib.hid hj; have HIw := Lib.hid hi
        obtain ⟨hcx, hcy⟩ := box_rules HIw.out.box
        have lcw := box_lt HIw.out.box
        clear hj hi
        by_cases hlt' : k < ts.length
        · obtain ⟨a, x, rfl, hx, ⟨g0, g1, g2, g3⟩, g4, g5, g6, g7, g8, g9⟩ := (Ht.out.below HIw.out.low).tkAt hlt'
          have HS := Lib.hid (HS2.out k hlt')
          rw [hx] at HS
          clear hx
          have fT := Lib.hid (fun w => task_any x sw w)
          unfold tkv at fT
          generalize tkWhy x sw = y at *
          obtain ⟨x0, x1, x2, x3, x4, x5, x6, x7, x8, x9⟩ := x
          dsimp only at g0 g1 g2 g3 g4 g5 g6 g7 g8 g9 fT
          have fF := Lib.hid (fun w => found_any 4 (k : Nat) y w)
          have HY2 := Lib.hid (fun w4 (h : Hid (Below wr.heap.size wr w4)) => HY.out (heads ++ seg2.take k) ⟨4, k, y⟩ w4 (HJ.out _ _ _ none Hj.out (below_grown h.out) (fun _ h => by cases h)) (by rw [List.length_append, List.length_take, HN.out, HN2.out]; omega))
          gi_wp2_with (refine ⟨trivial, ?_⟩; (first | (gi_at_call 34; refine (callsIn_wide.2 (fT.out _)).mono ?_; rintro e w3 ⟨rfl, hb3⟩; have HB3 := S_call' (S_alloc' (S_refl' wr) _) hb3; clear hb3) | (gi_at_call 31; refine (callsIn_wide.2 (fF.out _)).mono ?_; rintro e w4 ⟨rfl, hb4⟩; have HB4 := S_call' HB3 hb4; clear hb4; obtain ⟨fn, tmps, assign, body, hy, hR⟩ := HY2.out _ HB4; dsimp only [flv] at hy; have HR := Lib.hid hR; clear hR)))
          refine HR.out.mono ?_
          rintro e W3 (⟨rfl, hJ3, hk3⟩ | ⟨rfl, hJx3⟩)
          · gi_wp2
            refine ⟨?_, ?_⟩
            rotate_left
            · simp [intOf]; omega
            repeat apply Exists.intro
            refine ⟨?_, rfl⟩
            exact ⟨k + 1, by omega, by go_num, by rw [HS.out, ← List.append_assoc]; exact hJ3, (HIw.out.below HB4.out).own hk3 hBc⟩
          · gi_wp2
            refine bodyPost_ret (results_none rfl _ _ _) rfl ?_
            refine ⟨⟨_, rfl⟩, .inr ⟨_, pre_seg HL.out (k + 1), ?_⟩⟩
            rw [HS.out, ← List.append_assoc]
            exact hJx3
        · obtain rfl : k = ts.length := by omega
          rw [List.take_of_length_le (by rw [HN2.out]; omega)] at Hj
          have HL3 : Hid (looks = (heads ++ seg2) ++ (numb 5 0 (ls.map lnWhy) ++ (numb 6 0 (hs.map thWhy) ++ numb 7 0 (prWhys [] (ts.map (·.prio) ++ hs.map (·.prio)))))) := Lib.hid (by rw [HL.out, List.append_assoc])
          have HN23 : Hid ((heads ++ seg2).length = 3 + ts.length) := Lib.hid (by rw [List.length_append, HN.out, HN2.out])
          clear HS2
          gi_wp2
          go_wp2
          generalize heads ++ seg2 = P3 at *
          generalize hs3 : numb 5 0 (ls.map lnWhy) = seg3 at *
          have HS3 : Hid (∀ k, k < ls.length → seg3.take (k + 1) = seg3.take k ++ [⟨5, k, lnWhy (ls.getD k ⟨0, 0, 0, 0⟩)⟩]) := Lib.hid (fun k hk => by rw [← hs3]; exact seg_take 5 lnWhy ls ⟨0, 0, 0, 0⟩ hk)
          have HN3 : Hid (seg3.length = ls.length) := Lib.hid (by rw [← hs3]; exact seg_len _ _ _)
          clear hs3
          refine (wpIn_wide (n := 8)).1 ?_
          gi_loopw [55] (fun i wr => ∃ k : Nat, k ≤ ls.length ∧ i = .int .i64 k ∧ J (P3 ++ seg3.take k) wr ∧ LkI w0 W wr Bc #[.int .i64 mn, .int .i64 mx, .int .i64 sw, .slice A ts.length ca, .slice B ls.length cb, .slice D hs.length cd]) (fun i _ => ls.length - (intOf i).toNat)
          case atStart => exact ⟨0, by omega, rfl, by rw [List.take_zero, List.append_nil]; exact Hj.out, HIw.out⟩
          case round =>
            obtain ⟨k, hk, rfl, hj, hi⟩ := hrel
            clear HIw Hj hcx hcy
            have Hj := Lib.hid hj; have HIw := Lib.hid hi
            obtain ⟨hcx, hcy⟩ := box_rules HIw.out.box
            have lcw := box_lt HIw.out.box
            clear hj hi
            by_cases hlt' : k < ls.length
            · obtain ⟨a, x, rfl, hx, g0, g1, g2, g3⟩ := (Hl.out.below HIw.out.low).lnAt hlt'
              have HS := Lib.hid (HS3.out k hlt')
              rw [hx] at HS
              clear hx
              have fT := Lib.hid (fun w => line_any x w)
              unfold lnv at fT
              generalize lnWhy x = y at *
              obtain ⟨x0, x1, x2, x3⟩ := x
              dsimp only at g0 g1 g2 g3 fT
              have fF := Lib.hid (fun w => found_any 5 (k : Nat) y w)
              have HY2 := Lib.hid (fun w4 (h : Hid (Below wr.heap.size wr w4)) => HY.out (P3 ++ seg3.take k) ⟨5, k, y⟩ w4 (HJ.out _ _ _ none Hj.out (below_grown h.out) (fun _ h => by cases h)) (by rw [List.length_append, List.length_take, HN23.out, HN3.out]; omega))
              gi_wp2_with (refine ⟨trivial, ?_⟩; (first | (gi_at_call 35; refine (callsIn_wide.2 (fT.out _)).mono ?_; rintro e w3 ⟨rfl, hb3⟩; have HB3 := S_call' (S_alloc' (S_refl' wr) _) hb3; clear hb3) | (gi_at_call 31; refine (callsIn_wide.2 (fF.out _)).mono ?_; rintro e w4 ⟨rfl, hb4⟩; have HB4 := S_call' HB3 hb4; clear hb4; obtain ⟨fn, tmps, assign, body, hy, hR⟩ := HY2.out _ HB4; dsimp only [flv] at hy; have HR := Lib.hid hR; clear hR)))
              refine HR.out.mono ?_
              rintro e W3 (⟨rfl, hJ3, hk3⟩ | ⟨rfl, hJx3⟩)
              · gi_wp2
                refine ⟨?_, ?_⟩
                rotate_left
                · simp [intOf]; omega
                repeat apply Exists.intro
                refine ⟨?_, rfl⟩
                exact ⟨k + 1, by omega, by go_num, by rw [HS.out, ← List.append_assoc]; exact hJ3, (HIw.out.below HB4.out).own hk3 hBc⟩
              · gi_wp2
                refine bodyPost_ret (results_none rfl _ _ _) rfl ?_
                refine ⟨⟨_, rfl⟩, .inr ⟨_, pre_seg HL3.out (k + 1), ?_⟩⟩
                rw [HS.out, ← List.append_assoc]
                exact hJx3
            · obtain rfl : k = ls.length := by omega
              rw [List.take_of_length_le (by rw [HN3.out]; omega)] at Hj
              have HL4 : Hid (looks = (P3 ++ seg3) ++ (numb 6 0 (hs.map thWhy) ++ numb 7 0 (prWhys [] (ts.map (·.prio) ++ hs.map (·.prio))))) := Lib.hid (by rw [HL3.out, List.append_assoc])
              have HN34 : Hid ((P3 ++ seg3).length = 3 + ts.length + ls.length) := Lib.hid (by rw [List.length_append, HN23.out, HN3.out])
              clear HS3
              gi_wp2
              go_wp2
              generalize P3 ++ seg3 = P4 at *
              generalize hs4 : numb 6 0 (hs.map thWhy) = seg4 at *
              have HS4 : Hid (∀ k, k < hs.length → seg4.take (k + 1) = seg4.take k ++ [⟨6, k, thWhy (hs.getD k ⟨0, 0, 0, 0⟩)⟩]) := Lib.hid (fun k hk => by rw [← hs4]; exact seg_take 6 thWhy hs ⟨0, 0, 0, 0⟩ hk)
              have HN4 : Hid (seg4.length = hs.length) := Lib.hid (by rw [← hs4]; exact seg_len _ _ _)
              clear hs4
              refine (wpIn_wide (n := 8)).1 ?_
              gi_loopw [71] (fun i wr => ∃ k : Nat, k ≤ hs.length ∧ i = .int .i64 k ∧ J (P4 ++ seg4.take k) wr ∧ LkI w0 W wr Bc #[.int .i64 mn, .int .i64 mx, .int .i64 sw, .slice A ts.length ca, .slice B ls.length cb, .slice D hs.length cd]) (fun i _ => hs.length - (intOf i).toNat)
              case atStart => exact ⟨0, by omega, rfl, by rw [List.take_zero, List.append_nil]; exact Hj.out, HIw.out⟩
              case round =>
                obtain ⟨k, hk, rfl, hj, hi⟩ := hrel
                clear HIw Hj hcx hcy
                have Hj := Lib.hid hj; have HIw := Lib.hid hi
                obtain ⟨hcx, hcy⟩ := box_rules HIw.out.box
                have lcw := box_lt HIw.out.box
                clear hj hi
                by_cases hlt' : k < hs.length
                · obtain ⟨a, x, rfl, hx, g0, g1, g2, g3⟩ := (Hh.out.below HIw.out.low).thAt hlt'
                  have HS := Lib.hid (HS4.out k hlt')
                  rw [hx] at HS
                  clear hx
                  have fT := Lib.hid (fun w => thread_any x w)
                  unfold thv at fT
                  generalize thWhy x = y at *
                  obtain ⟨x0, x1, x2, x3⟩ := x
                  dsimp only at g0 g1 g2 g3 fT
                  have fF := Lib.hid (fun w => found_any 6 (k : Nat) y w)
                  have HY2 := Lib.hid (fun w4 (h : Hid (Below wr.heap.size wr w4)) => HY.out (P4 ++ seg4.take k) ⟨6, k, y⟩ w4 (HJ.out _ _ _ none Hj.out (below_grown h.out) (fun _ h => by cases h)) (by rw [List.length_append, List.length_take, HN34.out, HN4.out]; omega))
                  gi_wp2_with (refine ⟨trivial, ?_⟩; (first | (gi_at_call 36; refine (callsIn_wide.2 (fT.out _)).mono ?_; rintro e w3 ⟨rfl, hb3⟩; have HB3 := S_call' (S_alloc' (S_refl' wr) _) hb3; clear hb3) | (gi_at_call 31; refine (callsIn_wide.2 (fF.out _)).mono ?_; rintro e w4 ⟨rfl, hb4⟩; have HB4 := S_call' HB3 hb4; clear hb4; obtain ⟨fn, tmps, assign, body, hy, hR⟩ := HY2.out _ HB4; dsimp only [flv] at hy; have HR := Lib.hid hR; clear hR)))
                  refine HR.out.mono ?_
                  rintro e W3 (⟨rfl, hJ3, hk3⟩ | ⟨rfl, hJx3⟩)
                  · gi_wp2
                    refine ⟨?_, ?_⟩
                    rotate_left
                    · simp [intOf]; omega
                    repeat apply Exists.intro
                    refine ⟨?_, rfl⟩
                    exact ⟨k + 1, by omega, by go_num, by rw [HS.out, ← List.append_assoc]; exact hJ3, (HIw.out.below HB4.out).own hk3 hBc⟩
                  · gi_wp2
                    refine bodyPost_ret (results_none rfl _ _ _) rfl ?_
                    refine ⟨⟨_, rfl⟩, .inr ⟨_, pre_seg HL4.out (k + 1), ?_⟩⟩
                    rw [HS.out, ← List.append_assoc]
                    exact hJx3
                · obtain rfl : k = hs.length := by omega
                  rw [List.take_of_length_le (by rw [HN4.out]; omega)] at Hj
                  have HL5 : Hid (looks = (P4 ++ seg4) ++ numb 7 0 (prWhys [] (ts.map (·.prio) ++ hs.map (·.prio)))) := Lib.hid (by rw [HL4.out, List.append_assoc])
                  have HN45 : Hid ((P4 ++ seg4).length = 3 + ts.length + ls.length + hs.length) := Lib.hid (by rw [List.length_append, HN34.out, HN4.out])
                  clear HS4
                  gi_wp2
                  generalize P4 ++ seg4 = P5 at *
                  have fP := Lib.hid (fun w => prios_any mn mx sw A ts.length ca B ls.length cb D hs.length cd w)
                  unfold cfv at fP
                  go_wp2_with (go_at_call 37; refine (fP.out _).mono ?_; rintro e w3 ⟨rfl, rfl⟩)
                  have hb3 := (Below.refl wr.heap.size wr).alloc (Nat.le_refl _) (.cells #[.int .i64 mn, .int .i64 mx, .int .i64 sw, .slice A ts.length ca, .slice B ls.length cb, .slice D hs.length cd] 28)
                  have HP := prios_iter mn mx sw ts ls.length hs A ca B cb D cd wr.heap.size nB w0 (wr.alloc (.cells #[.int .i64 mn, .int .i64 mx, .int .i64 sw, .slice A ts.length ca, .slice B ls.length cb, .slice D hs.length cd] 28)) hlt hlh
                    (HIw.out.below hb3).low hnB (Nat.le_trans (Nat.le_trans hWs HIw.out.size) hb3.size) (heap_alloc_new wr _) Ht.out Hh.out H64.out l (fun pre => J (P5 ++ pre)) (fun pre => Jx (P5 ++ pre)) _ (Below.refl _ _)
                    (fun s X Y row hs hg hr => HJ.out _ _ _ row hs hg (fun r e => ⟨Nat.le_trans (Nat.le_trans HIw.out.size hb3.size) (hr r e).1, (hr r e).2⟩))
                    (fun s X Y row hs hg hr => HJx.out _ _ _ row hs hg (fun r e => ⟨Nat.le_trans (Nat.le_trans HIw.out.size hb3.size) (hr r e).1, (hr r e).2⟩))
                    (fun pre x W1 hj hlen => by
                      have h := HY.out (P5 ++ pre) x W1 hj (by rw [List.length_append, HN45.out]; omega)
                      rwa [List.append_assoc] at h)
                    (by rw [List.append_nil]; exact HJ.out _ _ _ none Hj.out (below_grown hb3) (fun _ h => by cases h))
                  refine ((callsIn_wide (n := 8)).1 HP).mono ?_
                  rintro e w4 ⟨⟨v, rfl⟩, hz⟩
                  have Hz := Lib.hid hz; clear hz HP hb3
                  go_wp2
                  go_end0
                  refine ⟨⟨_, rfl⟩, ?_⟩
                  rcases Hz.out with ⟨xs, rfl, hj⟩ | ⟨pre, hpre, hj⟩
                  · exact .inl ⟨_, HL5.out.symm, hj⟩
                  · refine .inr ⟨_, ?_, hj⟩
                    rw [HL5.out]
                    exact (List.prefix_append_right_inj _).2 hpre
end Go.Proofs.Ytgampofpabllbaa

/- Package pool: the iterator of Each, and List. Conditions: a pool's memory. -/
import Derived.Test.YtiblpnadninmbaaGreatDoorPlD
import Derived.Test.YtiblpnadninmbaaGreatDoorKeepLW
namespace Go.Proofs.YtiblpnadninmbaaGreatDoor
open Go.RowKit Go.Shelf
attribute [local go_sem] Oper.semAt_some

theorem hdO_cons (x : Nat) (r : List Nat) (q : Int) : hdO (x :: r) q = (x : Int) := rfl
theorem fst_eq (l : List Nat) : fstV l = .tuple #[.int .i64 (hdO l 0), .bool (!l.isEmpty)] := by cases l <;> rfl
theorem dropW {i : Nat} {b : List Nat} : ∀ {a : List Nat}, (a ++ i :: b).Nodup → (a ++ i :: b).dropWhile (fun (y : Nat) => decide ((y : Int) ≠ (i : Int))) = i :: b
  | [], _ => by simp
  | x :: a, h => by
    obtain ⟨h1, h2⟩ := List.nodup_cons.1 h
    have hx : x ≠ i := fun e => h1 (by simp [e])
    rw [List.cons_append, List.dropWhile_cons, if_pos (by simp; omega), dropW h2]
/-- How many are to come, by where it stands. -/
def toCome (l : List Nat) (i is : Value) : Nat := match is with
  | .bool true => (l.dropWhile (fun (y : Nat) => decide ((y : Int) ≠ intOf i))).length
  | _ => 0
/-- An entry of a list. -/
abbrev El (l : List Nat) := { i : Nat // i ∈ l }
def pv {l : List Nat} (xs : List (El l)) : List Nat := xs.map (·.1)
theorem peach_any (k pp : Nat) (w : World) :
    Calls Tryz.prog 90 #[.pointer (some ⟨pp, 0, none⟩), .int .i64 k] w fun e w' =>
      e = .returned (.func (.func 99) #[] #[.pointer (some ⟨w.heap.size, 0, none⟩), .pointer (some ⟨w.heap.size + 1, 0, none⟩)]) ∧
      (w.alloc (.cells #[.pointer (some ⟨pp, 0, none⟩)] 104)).alloc (.cells #[.int .i64 k] 3) = w' := by
  go_enter Tryz.func90, Tryz.ntmps90
  go_wp2
  go_ret
  exact ⟨by simp, rfl⟩
set_option maxHeartbeats 4000000 in
set_option maxRecDepth 100000 in
/-- What Each hands back: a list's entries, in order. -/
theorem peach_iter (k pp bl be n m : Nat) (pile : List Nat) (ls : Nat → List Nat) (b1 b2 n1 : Nat) (out : List Nat) (w0 w : World) (h0 : Below w0.heap.size w0 w) (k1 : b1 < n1) (q1 : b1 ∉ out) (k2 : b2 < n1) (q2 : b2 ∉ out)
    (hb1 : w.heap[b1]? = some (.cells #[.pointer (some ⟨pp, 0, none⟩)] 104 (0, 0))) (hb2 : w.heap[b2]? = some (.cells #[.int .i64 k] 3 (0, 0))) (hP : PoolAt w0 pp bl be n m pile ls) (hk : k < m) :
    SeqStopsK Fence.wide 8 Tryz.prog 99 #[.pointer (some ⟨b1, 0, none⟩), .pointer (some ⟨b2, 0, none⟩)] (fun i : El (ls k) => #[.int .i64 (i.1 : Nat)]) (KeepsLow w0.heap.size n1 out) (fun xs => pv xs = ls k)
      (fun pre => pv pre <+: ls k) (ls k).length w := fun ll J Jx W hW hJ hJx hY hJ0 => by
  have H1 := Lib.hid (box_keep hb1 hW)
  have H2 := Lib.hid (box_keep hb2 hW)
  have HW0 := Lib.hid (h0.trans (hW.mono h0.size))
  have HJ := Lib.hid hJ; have HY := Lib.hid hY; have HJ0 := Lib.hid hJ0
  have HND : Hid ((ls k).Nodup) := Lib.hid (by obtain ⟨p, _, hp⟩ := hP; exact hp.nl k hk)
  have s0 := h0.size
  have sW := hW.size
  have f1 := Lib.hid (fun X (h : Below w0.heap.size w0 X) => first_any k pp bl be n m pile ls X (hP.below h) hk)
  have f2 := Lib.hid (fun X i a b (h : Below w0.heap.size w0 X) (hab : ls k = a ++ i :: b) => next_any k i a b pp bl be n m pile ls X (hP.below h) hk hab)
  simp only [fst_eq] at f1 f2
  clear hb1 hb2 h0 hW hJ hJx hY hJ0 hP
  obtain ⟨hmx, hmy⟩ := box_rules H1.out
  obtain ⟨hnx, hny⟩ := box_rules H2.out
  refine callsIn_of_wp Tryz.func99 rfl trivial ?_ rfl
  simp only [Tryz.ntmps99, List.size_toArray, List.length_cons, List.length_nil, Nat.reduceAdd, Nat.reduceSub, Array.replicate_succ, Array.replicate_zero, List.push_toArray, List.append_toArray, List.nil_append, List.cons_append]
  gi_wp2_with (refine ⟨trivial, ?_⟩; gi_at_call 80; refine (callsIn_wide.2 (f1.out _ HW0.out)).mono ?_; rintro e w3 ⟨rfl, rfl⟩)
  gi_loopw [4, 5] (fun i is wr => ∃ (pre : List (El (ls k))) (b : List Nat), Hid (ls k = pv pre ++ b) ∧ i = .int .i64 (hdO b 0) ∧ is = .bool (!b.isEmpty) ∧ J pre wr ∧ KeepsLow w0.heap.size n1 out W wr ∧ W.heap.size ≤ wr.heap.size) (fun i is _ => toCome (ls k) i is)
  case atStart => exact ⟨[], ls k, Lib.hid rfl, rfl, rfl, HJ0.out, KeepsLow.refl _, Nat.le_refl _⟩
  case round =>
    obtain ⟨pre, b, HAb, rfl, rfl, hj, hK, hs⟩ := hrel
    have Hj := Lib.hid hj; have HK := Lib.hid hK
    clear hj hK
    cases b with
    | nil =>
      gi_wp2
      go_end0
      exact ⟨⟨_, rfl⟩, .inl ⟨pre, (HAb.out.trans (List.append_nil _)).symm, Hj.out⟩⟩
    | cons i r =>
      have hmem : i ∈ ls k := (congrArg (fun l => i ∈ l) HAb.out).mpr (by simp)
      have HL : Hid (pre.length < (ls k).length) := Lib.hid (by have h := congrArg List.length HAb.out; simp [pv] at h; omega)
      obtain ⟨fn, tmps, assign, body, hy, hR⟩ := HY.out pre ⟨i, hmem⟩ wr Hj.out HL.out
      have HR := Lib.hid hR
      have HD1 := Lib.hid (HK.out.box k1 q1 H1.out)
      have HD2 := Lib.hid (HK.out.box k2 q2 H2.out)
      dsimp only at hy
      have hn0 : (pv pre ++ i :: r).Nodup := (congrArg List.Nodup HAb.out).mp HND.out
      have HM : Hid (toCome (ls k) (.int .i64 (i : Int)) (.bool true) = r.length + 1) := Lib.hid ((congrArg (fun l => toCome l (.int .i64 (i : Int)) (.bool true)) HAb.out).trans (by
        show ((pv pre ++ i :: r).dropWhile (fun (y : Nat) => decide ((y : Int) ≠ (i : Int)))).length = _
        rw [dropW hn0]; rfl))
      have HM2 : Hid (∀ j r', r = j :: r' → toCome (ls k) (.int .i64 (j : Int)) (.bool true) = r'.length + 1) := Lib.hid (fun j r' hr => (congrArg (fun l => toCome l (.int .i64 (j : Int)) (.bool true)) HAb.out).trans (by
        have e : pv pre ++ i :: r = (pv pre ++ [i]) ++ j :: r' := by rw [hr]; simp
        rw [e] at hn0 ⊢
        show (((pv pre ++ [i]) ++ j :: r').dropWhile (fun (y : Nat) => decide ((y : Int) ≠ (j : Int)))).length = _
        rw [dropW hn0]; rfl))
      clear hn0
      clear hR
      simp only [hdO_cons, List.isEmpty_cons, Bool.not_false]
      gi_wp2
      refine HR.out.mono ?_
      rintro e W3 (⟨rfl, hJ4, hk4⟩ | ⟨rfl, hJx4⟩)
      · have HJ4 := Lib.hid hJ4
        have HK4 := Lib.hid (HK.out.trans hk4)
        have HS4 : Hid (W.heap.size ≤ W3.heap.size) := Lib.hid (Nat.le_trans hs hk4.below.size)
        have HE1 := Lib.hid (HK4.out.box k1 q1 H1.out)
        have f3 := Lib.hid (f2.out W3 i (pv pre) r (HW0.out.trans HK4.out.below) HAb.out)
        clear hJ4 hk4
        obtain ⟨ex, ey⟩ := box_rules HE1.out
        gi_wp2_with (refine ⟨trivial, ?_⟩; gi_at_call 100; refine (callsIn_wide.2 f3.out).mono ?_; rintro e w4 ⟨rfl, rfl⟩)
        go_roundw
        case rel => exact ⟨pre ++ [⟨i, hmem⟩], r, Lib.hid (HAb.out.trans (by simp [pv])), rfl, rfl, HJ4.out, HK4.out, HS4.out⟩
        case measure =>
          show toCome (ls k) (.int .i64 (hdO r 0)) (.bool (!r.isEmpty)) < toCome (ls k) (.int .i64 (i : Int)) (.bool true)
          rw [HM.out]
          cases r with
          | nil => exact Nat.succ_pos _
          | cons j r' =>
            show toCome (ls k) (.int .i64 (j : Int)) (.bool true) < _
            rw [HM2.out j r' rfl]; simp
      · have HJ4 := Lib.hid hJx4
        clear hJx4
        gi_wp2
        refine bodyPost_ret (results_none rfl _ _ _) rfl ?_
        exact ⟨⟨_, rfl⟩, .inr ⟨pre ++ [⟨i, hmem⟩], ⟨r, (HAb.out.trans (by simp [pv])).symm⟩, HJ4.out⟩⟩
theorem ownFrom_boxP {β : Type} {B b : Nat} {o : Obj} (hb : b < B) : OwnFrom B (fun (_ : β) W => W.heap[b]? = some o) := fun _ _ _ _ hs hg hr =>
  (hg.block b (box_lt hs) (fun e => by have := (hr b e.symm).1; omega)).trans hs
theorem ownFrom_belowP {β : Type} {B n : Nat} {w0 : World} (hn : n ≤ B) (h0 : n ≤ w0.heap.size) : OwnFrom B (fun (_ : β) W => Below n w0 W) := fun _ _ _ _ hs hg hr =>
  hs.grown hg (Nat.le_trans h0 hs.size) fun k e => Nat.le_trans hn (hr k e).1
def vN (l : List Nat) : List Value := l.map fun (i : Nat) => .int .i64 (i : Int)
theorem sk_int : SlK Tryz.prog 161 3 1 8 := SlK.mk' (z := .int .i64 0) Tryz.underlying161 (by kernel_rfl) rfl (by decide)
/-- What List hands back. -/
def RetLs (l : List Nat) (w : World) (e : Ending) (w' : World) : Prop := ∃ A c, e = .returned (.slice A l.length c) ∧ Rd w' A (vN l) ∧ (∀ a, A = some a → w.heap.size ≤ a.block) ∧ Below w.heap.size w w'
/-- What its loop holds. -/
structure LsI {L : List Nat} (w0 : World) (s : Nat) (pre : List (El L)) (W : World) : Prop where
  row : ∃ P c, W.heap[s]? = some (.cells #[.slice P pre.length c] 161 (0, 0)) ∧ W.ownsRow (s + 3) 3 1 (.slice P pre.length c) pre.length (vN (pv pre))
  low : Below w0.heap.size w0 W
  size : s + 3 ≤ W.heap.size
theorem lsI_own {L : List Nat} {w0 : World} {s B : Nat} (hB : s + 2 ≤ B) (h0 : w0.heap.size ≤ s) : OwnFrom B (LsI (L := L) w0 s) := fun pre W W' row h hg hr => by
  obtain ⟨P, c, h1, h2⟩ := h.row
  exact ⟨⟨P, c, ownFrom_boxP (β := Unit) (by omega) () W W' row h1 hg hr, ownFrom_row (β := Unit) (fun _ => _) (fun _ => _) (fun _ => _) () W W' row h2 hg hr⟩, ownFrom_belowP (β := Unit) (by omega) (Nat.le_refl _) () W W' row h.low hg hr, Nat.le_trans h.size hg.size⟩
def LsX {L : List Nat} (_c : Code) (_pre : List (El L)) (_W : World) : Prop := False
set_option maxHeartbeats 4000000 in
set_option maxRecDepth 100000 in
theorem list_any (k pp bl be n m : Nat) (pile : List Nat) (ls : Nat → List Nat) (w : World) (hP : PoolAt w pp bl be n m pile ls) (hk : k < m) (hl : (ls k).length ≤ 4096) :
    Calls Tryz.prog 82 #[.pointer (some ⟨pp, 0, none⟩), .int .i64 k] w (RetLs (ls k) w) := by
  have f1 := Lib.hid (fun w => peach_any k pp w)
  have HPool := Lib.hid hP
  clear hP
  refine calls_marks Tryz.func82 rfl ?_
  simp only [Tryz.ntmps82, List.size_toArray, List.length_cons, List.length_nil, Nat.reduceAdd, Nat.reduceSub, Array.replicate_succ, Array.replicate_zero, List.push_toArray, List.append_toArray, List.nil_append, List.cons_append]
  go_wp2_with (go_at_call 90; refine (f1.out _).mono ?_; rintro e w' ⟨rfl, rfl⟩)
  refine name_world fun W6 hW6 => ?_
  have hB6 : Below w.heap.size w W6 := by rw [hW6]; exact (((Below.refl _ _).alloc (Nat.le_refl _) _).alloc (by simp) _).alloc (by simp; omega) _
  have hs6 : w.heap.size + 3 ≤ W6.heap.size := by rw [hW6]; simp
  have x0 : W6.heap[w.heap.size]? = some (.cells #[.slice none 0 0] 161 (0, 0)) := by rw [hW6]; exact box_alloc (box_alloc (heap_alloc_new _ _) _) _
  have x1 : W6.heap[w.heap.size + 1]? = some (.cells #[.pointer (some ⟨pp, 0, none⟩)] 104 (0, 0)) := by rw [hW6]; exact box_alloc (heap_new_at _ (by simp)) _
  have x2 : W6.heap[w.heap.size + 2]? = some (.cells #[.int .i64 k] 3 (0, 0)) := by rw [hW6]; exact heap_new_at _ (by simp)
  clear hW6 f1
  have hit := peach_iter k pp bl be n m pile ls (w.heap.size + 1) (w.heap.size + 2) (w.heap.size + 3) [w.heap.size] w W6 hB6 (by omega) (by simp) (by omega) (by simp) x1 x2 HPool.out hk
  have hI0 : LsI (L := ls k) w w.heap.size [] W6 := ⟨⟨none, 0, x0, own_nilK _ _ _ _⟩, hB6, hs6⟩
  have HN : Hid (∀ xs : List (El (ls k)), pv xs = ls k → xs.length = (ls k).length) := Lib.hid (fun xs h => by have := congrArg List.length h; simpa [pv] using this)
  clear x0 x1 x2 HPool
  refine (wpIn_wide (n := 9)).1 (wpIn_rangeFunc_ownH (F := Fence.wide) (n := 9) rfl (by omega) rfl trivial (enters_of Tryz.func99 (by kernel_rfl) rfl) hit (fun h k => h.trans k) (KeepsLow.put (by omega)) (Below.refl _ _) (fun _ => rfl)
    (LsI w w.heap.size) LsX (lsI_own (by omega) (Nat.le_refl _)) (fun _ _ _ _ _ h _ _ => h.elim) hI0
    (fun x a' W => a' = { tmps := #[.pointer (some ⟨pp, 0, none⟩), .int .i64 k, undef, undef, .slice none 0 0, .pointer (some ⟨w.heap.size, 0, none⟩), .int .i64 (x.1 : Nat), .pointer (some ⟨pp, 0, none⟩), .int .i64 k,
      .func (.func 99) #[] #[.pointer (some ⟨w.heap.size + 1, 0, none⟩), .pointer (some ⟨w.heap.size + 1 + 1, 0, none⟩)], .int .i64 (x.1 : Nat), undef, undef, undef, undef, undef], defers := [] })
    (fun x a' s W W' row hs hg hr => hs)
    ?assign ?body ?done ?stop)
  case assign =>
    rintro l' pre x W K hI hK
    gi_wp2
    exact hK _ _ (KeepsFrom.refl _ _) (KeepsLow.refl _) hI rfl
  case body =>
    rintro l' pre ⟨i, hi⟩ a' W hl' _ hI rfl hlen
    clear hit hI0 hB6
    obtain ⟨A1, c1, hbox, hrow⟩ := hI.row
    obtain ⟨sx, sy⟩ := box_rules hbox
    have hsz := hI.size
    have HI := Lib.hid hI; have HBx := Lib.hid hbox; have HRow := Lib.hid hrow
    clear hI hbox hrow
    dsimp only
    gi_wp2_with (gi_at_builtin; go_loud (refine wpI_appK rfl _ _ sk_int (by decide) rfl (own_allocK HRow.out _) rfl (by omega) (by simp; omega) W.heap.size [.int .i64 i] rfl rfl ?_ rfl ?_); (intro j u hu; exact new_cell (w := W) hu); intro A4 c4 w4 ho4 hg4; have G4 := Lib.hid (grown_step HRow.out hg4); have HO4 := Lib.hid ho4; have HG4 := Lib.hid hg4; have HBx4 := Lib.hid (G4.out.low HBx.out (by omega)); obtain ⟨sx4, sy4⟩ := box_rules HBx4.out; clear ho4 hg4 sx sy)
    refine ⟨?_, ?_, ⟨⟨A4, c4, ?_, ?_⟩, ?_, ?_⟩⟩
    · exact (ko_set (ko_step HRow.out HG4.out) _ _).from _
    · have hkl : KeepsLow w.heap.size (w.heap.size + 3) [w.heap.size] W w4 := KeepsLow.step HRow.out HG4.out (by omega) (by omega) (Nat.le_refl _)
      exact hkl.set (p := ⟨w.heap.size, 0, none⟩) (Nat.le_refl _) (.inl (by simp)) _
    · rw [List.length_append]
      exact box_set (t := 161) (cs := #[.slice A1 pre.length c1]) (i := 0) HBx4.out _
    · rw [List.length_append, pv, vN, List.map_append, List.map_append]
      exact own_setK HO4.out (own_low HO4.out (by show w.heap.size < _; omega)) _
    · exact (G4.out.below HI.out.low (by omega) (by omega)).setCell (p := ⟨w.heap.size, 0, none⟩) (Nat.le_refl _) _
    · exact Nat.le_trans hsz (Nat.le_trans (show W.heap.size ≤ (W.alloc (.cells #[.int .i64 i] 3)).heap.size by simp) (Nat.le_trans HG4.out.size (by simp [World.setCell])))
  case done =>
    intro D' xs W hD hS hI hK
    obtain ⟨A1, c1, hbox, hrow⟩ := hI.row
    obtain ⟨sx, sy⟩ := box_rules hbox
    have HLow := Lib.hid hI.low; have HRow := Lib.hid hrow; have HK := Lib.hid hK
    have HS := Lib.hid hS
    have HNx := Lib.hid (HN.out xs hS)
    clear hit hI0 hB6 hI hbox hrow hS hK HN
    generalize hxl : xs.length = xl at *
    dsimp only
    go_wp2
    refine post_mark (v := .slice A1 xl c1) HK.out (by simp [results, Tryz.f82, go_sem]) ?_
    refine ⟨A1, c1, by rw [HNx.out], ?_, ?_, HLow.out.trans ((Below.refl _ _).grown (grownBy_putObj' _ D' _) HLow.out.size (fun k e => by cases e; omega))⟩
    · rw [← HS.out]
      exact own_rdK (own_keptK HRow.out fun g hg => by
        obtain ⟨_, _, cur, hcur⟩ := own_blockK HRow.out hg
        exact World.putObj_heap_other (fun e => by rw [e, HK.out] at hcur; cases hcur))
    · rintro a rfl
      have := (own_blockK HRow.out rfl).1
      omega
  case stop =>
    intro D' c' pre W hD hS hX hK
    exact hX.elim
end Go.Proofs.YtiblpnadninmbaaGreatDoor

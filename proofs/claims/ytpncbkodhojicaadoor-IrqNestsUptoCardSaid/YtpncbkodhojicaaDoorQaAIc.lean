/- Packages storm, irq: the walks of storm.New and of irq.New. Conditions: lists that read. -/
import Derived.Test.YtpncbkodhojicaaDoorIqV
import Derived.Test.YtpncbkodhojicaaDoorIqC2
import Derived.Deep.OwnRows
namespace Go.Proofs.YtpncbkodhojicaaDoor
open Go.RowKit

def stOk (many window : Int) : Bool := decide (1 ≤ many ∧ many ≤ 64) && decide (1 ≤ window ∧ window ≤ 1099511627776)
theorem stOk_true {many window : Int} (h : stOk many window = true) : (1 ≤ many ∧ many ≤ 64) ∧ 1 ≤ window ∧ window ≤ 1099511627776 := by
  unfold stOk at h
  simpa using h
theorem storm_ok (many : Nat) (window : Int) (w : World) (h0 : 1 ≤ many) (h1 : many ≤ 64) (h2 : 1 ≤ window) (h3 : window ≤ 1099511627776) :
    Calls Tryd.prog 25 #[.int .i64 many, .int .i64 window] w fun e w' => ∃ p, e = .returned (.tuple #[.pointer (some ⟨p, 0, none⟩), .int .i64 0]) ∧ w.heap.size ≤ p ∧ Below w.heap.size w w' := by
  have hmk := run_make_row' (P := Tryd.prog) 47 2 (.int .i64 0) 8 Tryd.underlying47 (by kernel_rfl) rfl .i64 .i64 many (by omega) (by omega)
  go_enter Tryd.func25, Tryd.ntmps25
  go_wp2
  go_ret2
  exact ⟨_, rfl, by simp, ((Below.refl _ _).alloc (Nat.le_refl _) _).alloc (by simp) _⟩
theorem storm_bad (many window : Int) (w : World) (h : stOk many window = false) :
    Calls Tryd.prog 25 #[.int .i64 many, .int .i64 window] w fun e w' => e = .returned (.tuple #[.pointer none, .int .i64 1]) ∧ w = w' := by
  have h' : ¬ ((1 ≤ many ∧ many ≤ 64) ∧ (1 ≤ window ∧ window ≤ 1099511627776)) := by
    intro x
    unfold stOk at h
    simp [x.1, x.2] at h
  clear h
  by_cases h1 : many < 1
  · go_enter Tryd.func25, Tryd.ntmps25
    go_wp2
    go_ret2
    exact ⟨rfl, rfl⟩
  · by_cases h2 : 64 < many
    · go_enter Tryd.func25, Tryd.ntmps25
      go_wp2
      go_ret2
      exact ⟨rfl, rfl⟩
    · by_cases h3 : window < 1
      · go_enter Tryd.func25, Tryd.ntmps25
        go_wp2
        go_ret2
        exact ⟨rfl, rfl⟩
      · have h4 : 1099511627776 < window := by omega
        clear h'
        go_enter Tryd.func25, Tryd.ntmps25
        go_wp2
        go_ret2
        exact ⟨rfl, rfl⟩
theorem add_succ (a : Addr) (n : Nat) : a.add (n + 1) = ⟨(a.add n).block, (a.add n).off + 1, none⟩ := by
  unfold Addr.add
  rw [if_neg (by omega)]
  split
  · rename_i h; subst h; simp
  · simp; omega
theorem add_plus (a : Addr) (n : Nat) : ∀ j, 0 < j → a.add (n + j) = ⟨(a.add n).block, (a.add n).off + j, none⟩
  | 0, h => by omega
  | 1, _ => add_succ a n
  | j + 2, _ => by
    have ih := add_plus a n (j + 1) (by omega)
    rw [show n + (j + 2) = n + (j + 1) + 1 by omega, add_succ, ih]
    simp; omega
theorem Rd.lnAt {w : World} {A : Option Addr} {ls : List Ln} (h : Rd w A (ls.flatMap lnc)) {k : Nat} (hk : k < ls.length) : ∃ a x, A = some a ∧ ls.getD k ⟨0, 0, 0, 0⟩ = x ∧
    w.cell? (a.add (k * 4)) = some (.int .i64 x.prio) ∧ w.cell? ⟨(a.add (k * 4)).block, (a.add (k * 4)).off + 1, none⟩ = some (.int .i64 x.top) ∧
    w.cell? ⟨(a.add (k * 4)).block, (a.add (k * 4)).off + 2, none⟩ = some (.int .i64 x.many) ∧ w.cell? ⟨(a.add (k * 4)).block, (a.add (k * 4)).off + 3, none⟩ = some (.int .i64 x.window) := by
  have g := flatMap_get (f := lnc) (k := 4) (fun _ => rfl) ⟨0, 0, 0, 0⟩ ls k hk
  generalize ls.getD k ⟨0, 0, 0, 0⟩ = x at *
  obtain ⟨a, rfl, h0⟩ := h _ _ (g 0 (by omega))
  obtain ⟨_, ha1, h1⟩ := h _ _ (g 1 (by omega)); cases ha1
  obtain ⟨_, ha1, h2⟩ := h _ _ (g 2 (by omega)); cases ha1
  obtain ⟨_, ha1, h3⟩ := h _ _ (g 3 (by omega)); cases ha1
  rw [add_plus _ _ _ (by omega)] at h1 h2 h3
  exact ⟨a, x, rfl, rfl, h0, h1, h2, h3⟩

theorem sl_line : SlK Tryd.prog 69 77 5 40 := SlK.mk' (z := .agg #[.pointer none, .int .i64 0, .int .i64 0, .int .i64 0, .int .i64 0]) Tryd.underlying69 (by kernel_rfl) rfl (by decide)

def lnMade (x : Ln) : Bool := stOk x.many x.window && decide (1 ≤ x.top ∧ x.top ≤ 1099511627776)
/-- Irq's cells while lines are made. -/
def irqC (s : Value) : Array Value := #[.int .u64 0, .int .u64 0, .int .u64 0, .int .u64 0, .slice none 0 0, .int .i64 0, .slice none 0 0, s, .slice none 0 0, .int .u64 0, .int .i64 0]
def lnPrios (ls : List Ln) (k : Nat) : List Value := (ls.take k).map fun x => .int .i64 x.prio
/-- The lines that are of edges: all. -/
def gB (n : Nat) : Nat := mk fun i => decide ((0 : Int) ≤ i) && decide ((i : Int) ≤ (n : Int) - 1)
theorem gB_bit (n i : Nat) : (gB n).testBit i = (decide (i < 64) && decide (i < n)) := by
  unfold gB
  rw [mk_bit]
  have e1 : decide ((0 : Int) ≤ i) = true := by simp
  have e2 : decide ((i : Int) ≤ (n : Int) - 1) = decide (i < n) := by
    rw [decide_eq_decide]; omega
  rw [e1, e2]; simp
theorem fresh_ok {l : List Int} (h : 1 ≤ l.length ∧ l.length ≤ 64 ∧ ∀ i, i < l.length → oddP (l.getD i 0) = false) : (freshC (gB l.length) l).ok where
  len1 := h.1
  len2 := h.2.1
  prio := h.2.2
  sets := fun i hi h64 => by
    have hi' : l.length ≤ i := hi
    refine ⟨Nat.zero_testBit i, ?_, Nat.zero_testBit i, ?_⟩
    · show (mk fun i => decide (i < l.length)).testBit i = false
      rw [mk_bit]; simp; omega
    · show (gB l.length).testBit i = false
      rw [gB_bit]; simp; omega
  rg := fun i _ hr => by
    have : (0 : Nat).testBit i = true := hr
    simp at this
  t0 := Int.le_refl 0
  t1 := by show (0 : Int) ≤ 15; decide
  stack := fun i hi => absurd (show i < 0 from hi) (Nat.not_lt_zero i)
theorem fresh_only {l : List Int} (h : (freshC (gB l.length) l).ok) : 1 ≤ l.length ∧ l.length ≤ 64 ∧ ∀ i, i < l.length → oddP (l.getD i 0) = false := ⟨h.len1, h.len2, h.prio⟩
theorem reti_ok {g : Nat} {l : List Int} {w : World} {e : Ending} {w' : World} (h : RetI (freshC g l, 0) w e w') :
    ∃ (e0 : Int) (pA : Option Addr) (pc : Nat) (sA : Option Addr) (sc : Nat), e = .returned (.tuple #[.agg #[.int .u64 0, .int .u64 e0, .int .u64 0, .int .u64 g, .slice pA l.length pc, .int .i64 0, .slice sA 0 sc], .int .i64 0]) ∧ Below w.heap.size w w' := by
  obtain ⟨pA, pc, sA, sc, he, _, _, hb, _⟩ := h
  exact ⟨_, pA, pc, sA, sc, he, hb⟩
theorem reti_bad {w : World} {e : Ending} {w' : World} (h : RetI (IC.zero, 2) w e w') :
    ∃ (pA : Option Addr) (pc : Nat) (sA : Option Addr) (sc : Nat), e = .returned (.tuple #[.agg #[.int .u64 0, .int .u64 0, .int .u64 0, .int .u64 0, .slice pA 0 pc, .int .i64 0, .slice sA 0 sc], .int .i64 2]) ∧ Below w.heap.size w w' := by
  obtain ⟨pA, pc, sA, sc, he, _, _, hb, _⟩ := h
  exact ⟨pA, pc, sA, sc, he, hb⟩
theorem between_g (n : Nat) (hn : n ≤ 1048576) (w : World) : Calls Tryd.prog 27 #[.int .i64 0, .int .i64 ((n : Int) - 1)] w fun e w' => e = .returned (.int .u64 ((gB n : Nat) : Int)) ∧ w = w' := between_any 0 _ w (by omega) (by omega)
theorem lnPrios_succ {ls : List Ln} {k : Nat} (h : k < ls.length) : lnPrios ls (k + 1) = lnPrios ls k ++ [.int .i64 (ls.getD k ⟨0, 0, 0, 0⟩).prio] := by
  unfold lnPrios
  rw [List.take_succ_eq_append_getElem h, List.map_append]
  simp [List.getD, h]
def prOk (p : Int) : Bool := decide (1 ≤ p ∧ p ≤ 15)
/-- Why lines are not made. -/
def irqWhy (ls : List Ln) : Int := if ls.all lnMade && ls.all (fun x => prOk x.prio) && decide (ls.length ≤ 64) then 0 else 1
/-- What making lines comes to. -/
def RetQ (ls : List Ln) (w : World) (e : Ending) (w' : World) : Prop :=
  ∃ p : Option Addr, e = .returned (.tuple #[.pointer p, .int .i64 (irqWhy ls)]) ∧ (irqWhy ls = 0 → p ≠ none) ∧ Below w.heap.size w w'
theorem ret_bad {ls : List Ln} {k : Nat} (hk : k < ls.length) (h : lnMade (ls.getD k ⟨0, 0, 0, 0⟩) = false) {w w' : World} (hb : Below w.heap.size w w') : RetQ ls w (.returned (.tuple #[.pointer none, .int .i64 1])) w' := by
  have e : irqWhy ls = 1 := by
    unfold irqWhy
    have : ls.all lnMade = false := by
      rw [List.all_eq_false]
      refine ⟨_, List.getElem_mem hk, ?_⟩
      simp [List.getD, hk] at h
      simp [h]
    simp [this]
  exact ⟨none, by rw [e], fun h => by omega, hb⟩
theorem oddP_prOk (p : Int) : oddP p = !prOk p := by
  unfold oddP prOk
  by_cases h1 : p < 1
  · have : ¬ (1 ≤ p ∧ p ≤ 15) := by omega
    simp [h1]
  · by_cases h2 : 15 < p
    · simp [h2]
    · have a : 1 ≤ p := by omega
      have b : p ≤ 15 := by omega
      simp [a, b, h1, h2]
theorem irq_good {ls : List Ln} (hm : ∀ j, j < ls.length → lnMade (ls.getD j ⟨0, 0, 0, 0⟩) = true) (h : 1 ≤ ls.length ∧ ls.length ≤ 64 ∧ ∀ i, i < ls.length → oddP ((ls.map (·.prio)).getD i 0) = false) : irqWhy ls = 0 := by
  have h1 : ls.all lnMade = true := by
    rw [List.all_eq_true]
    intro x hx
    obtain ⟨i, hi, rfl⟩ := List.getElem_of_mem hx
    simpa [List.getD, hi] using hm i hi
  have h2 : ls.all (fun x => prOk x.prio) = true := by
    rw [List.all_eq_true]
    intro x hx
    obtain ⟨i, hi, rfl⟩ := List.getElem_of_mem hx
    have := h.2.2 i hi
    rw [oddP_prOk] at this
    simpa [List.getD, hi] using this
  unfold irqWhy
  simp [h1, h2, h.2.1]
theorem irq_bad {ls : List Ln} (h : ¬ (1 ≤ ls.length ∧ ls.length ≤ 64 ∧ ∀ i, i < ls.length → oddP ((ls.map (·.prio)).getD i 0) = false)) (h0 : 1 ≤ ls.length := by omega) : irqWhy ls = 1 := by
  unfold irqWhy
  rw [if_neg]
  intro x
  simp only [Bool.and_eq_true, decide_eq_true_eq, List.all_eq_true] at x
  refine h ⟨h0, x.2, fun i hi => ?_⟩
  rw [oddP_prOk]
  simpa [List.getD, hi] using x.1.2 _ (List.getElem_mem hi)
set_option maxHeartbeats 2000000 in
set_option maxRecDepth 100000 in
theorem irq_new (ls : List Ln) (hl : ls.length ≤ 1048576) (A : Option Addr) (c : Nat) (w : World) (hr : Rd w A (ls.flatMap lnc)) :
    Calls Tryd.prog 6 #[.slice A ls.length c] w (RetQ ls w) := by
  have Hr := Lib.hid hr; clear hr
  go_enter Tryd.func6, Tryd.ntmps6
  go_wp2
  go_loopw [5, 17] (fun s i wr => ∃ (k : Nat) (A1 : Option Addr) (c1 : Nat) (A2 : Option Addr) (c2 : Nat) (rows : List Value), k ≤ ls.length ∧ i = .int .i64 k ∧ s = .slice A2 k c2 ∧
    wr.heap[w.heap.size]? = some (.cells (irqC (.slice A1 k c1)) 72 (0, 0)) ∧ wr.ownsRow (w.heap.size + 1) 77 5 (.slice A1 k c1) k rows ∧
    wr.ownsRow (w.heap.size + 1) 3 1 (.slice A2 k c2) k (lnPrios ls k) ∧ Below w.heap.size w wr ∧ Hid (∀ j, j < k → lnMade (ls.getD j ⟨0, 0, 0, 0⟩) = true)) (fun _ i _ => ls.length - (intOf i).toNat)
  case atStart =>
    refine ⟨0, none, 0, some ⟨w.heap.size + 1, 0, none⟩, 0, [], by omega, rfl, by simp, ?_, own_nilK _ _ _ _, ?_, ?_, fun j hj => absurd hj (Nat.not_lt_zero _)⟩
    · exact box_alloc (heap_alloc_new w _) _
    · have h := own_empty (w.alloc (.cells (irqC (.slice none 0 0)) 72)) 3 (base := w.heap.size + 1) (by simp)
      simpa [lnPrios, irqC] using h
    · exact ((Below.refl _ _).alloc (Nat.le_refl _) _).alloc (by simp) _
  case round =>
    obtain ⟨k, A1, c1, A2, c2, rows, hk, rfl, rfl, hq, ho1, ho2, hB, hm⟩ := hrel
    by_cases hlt : k < ls.length
    · obtain ⟨a, x, rfl, hx, h0, h1, h2, h3⟩ := (Hr.out.below hB).lnAt hlt
      have Hx := Lib.hid hx; clear hx
      obtain ⟨prio, top, many, window⟩ := x
      dsimp only at h0 h1 h2 h3
      by_cases hs : stOk many window = true
      · obtain ⟨⟨m1, m2⟩, m3, m4⟩ := stOk_true hs
        obtain ⟨many, rfl⟩ := Int.eq_ofNat_of_zero_le (show 0 ≤ many by omega)
        have f1 := Lib.hid (fun w => storm_ok many window w (by omega) (by omega) m3 m4)
        clear m1 m2 m3 m4
        have Hs := Lib.hid hs; clear hs
        go_wp2_with fail
        refine (f1.out _).mono ?_
        rintro e w2 ⟨p, rfl, hp, hb⟩
        have HX := Lib.hid (box_new hb)
        have HQ := Lib.hid (box_keep (box_alloc hq (.cells #[.int .i64 prio, .int .i64 top, .int .i64 many, .int .i64 window] 46)) hb)
        have HO1 := Lib.hid (own_belowK (own_allocK ho1 (.cells #[.int .i64 prio, .int .i64 top, .int .i64 many, .int .i64 window] 46)) hb)
        have HO2 := Lib.hid (own_belowK (own_allocK ho2 (.cells #[.int .i64 prio, .int .i64 top, .int .i64 many, .int .i64 window] 46)) hb)
        have s0 := hB.size
        have HB := Lib.hid ((hB.alloc s0 (.cells #[.int .i64 prio, .int .i64 top, .int .i64 many, .int .i64 window] 46)).trans (hb.mono (by simp; omega)))
        have s2 := hb.size
        simp at s2
        have Hlq := box_lt hq
        clear hb hq ho1 ho2 hB h0 h1 h2 h3
        obtain ⟨hx, hy⟩ := box_rules HX.out
        obtain ⟨hqx, hqy⟩ := box_rules HQ.out
        unfold irqC at hqx
        by_cases t1 : top < 1
        · go_wp2
          go_ret2
          exact ret_bad hlt (by rw [Hx.out]; simp [lnMade]; omega) HB.out
        · by_cases t2 : 1099511627776 < top
          · go_wp2
            go_ret2
            exact ret_bad hlt (by rw [Hx.out]; simp [lnMade]; omega) HB.out
          · have Hlen := Lib.hid HB.out.size
            go_wp2_with (at_builtin; first | (refine wp_appK rfl _ _ sl_line (by decide) rfl (own_allocK HO1.out _) rfl (by omega) (by simp; omega) w2.heap.size [.pointer (some ⟨p, 0, none⟩), .int .i64 0, .int .i64 0, .int .i64 0, .int .i64 0] rfl rfl (fun j u hu => new_cell hu) rfl ?_; intro A3 c3 w3 ho3 hg3 _; have G3 := Lib.hid (grown_step HO1.out hg3); have HX3 := Lib.hid (G3.out.other HX.out (by decide)); have HQ3 := Lib.hid (G3.out.low HQ.out (Nat.lt_succ_self _)); have HO3 := Lib.hid ho3; have s3 := G3.out.size; clear ho3 hg3; obtain ⟨hx3, hy3⟩ := box_rules HX3.out; obtain ⟨hqx3, hqy3⟩ := box_rules HQ3.out; unfold irqC at hqx3) | (refine wp_app1g rfl _ _ sl_int (by decide) rfl (own_allocK (own_setK (G3.out.row HO2.out (by decide)) (own_low HO2.out (Nat.lt_succ_self _)) _) _) rfl (by omega) (by simp; omega) _ (.int .i64 prio) rfl (by go_simp) rfl ?_; intro A4 c4 w4 ho4 hg4 _; have G4 := Lib.hid (grown_step (own_setK (G3.out.row HO2.out (by decide)) (own_low HO2.out (Nat.lt_succ_self _)) _) hg4); have HO4 := Lib.hid ho4; clear ho4 hg4))
            have b3 := G3.out.below HB.out (Nat.le_succ _) Hlen.out
            have s3 := G3.out.size
            refine ⟨⟨k + 1, A3, c3, A4, c4, _, by omega, by go_num, rfl, ?_, G4.out.row (own_setK HO3.out (own_low HO3.out (Nat.lt_succ_self _)) _) (by decide), ?_, G4.out.below (b3.setCell (p := ⟨w.heap.size, 7, none⟩) (Nat.le_refl _) _) (Nat.le_succ _) (by simp; omega), ?_⟩, by simp [intOf]; omega⟩
            · exact G4.out.low (box_set HQ3.out _) (Nat.lt_succ_self _)
            · rw [lnPrios_succ hlt, Hx.out]; exact HO4.out
            · intro j hj
              by_cases he : j = k
              · subst he
                rw [Hx.out]
                simp [lnMade, Hs.out]; omega
              · exact hm.out j (by omega)
      · have hs' : stOk many window = false := by simpa using hs
        have f1 := Lib.hid (fun w => storm_bad many window w hs')
        have Hs := Lib.hid hs'; clear hs hs'
        go_wp2_with (refine (f1.out _).mono ?_; rintro e w2 ⟨rfl, rfl⟩)
        go_ret2
        refine ret_bad hlt (by rw [Hx.out]; simp [lnMade, Hs.out]) (hB.alloc hB.size _)
    · obtain rfl : k = ls.length := by omega
      have Hq := Lib.hid hq; clear hq
      have HB := Lib.hid hB; clear hB
      have lq := box_lt Hq.out
      have bR : w.heap.size ≤ w.heap.size := Nat.le_refl _
      by_cases hn : ls.length = 0
      · have hls : ls = [] := List.eq_nil_of_length_eq_zero hn
        have Hn := Lib.hid hn
        have hn0 : ((ls.length : Int) == 0) = true := by simp [hls]
        have f1 : Hid (∀ w, Calls Tryd.prog 27 #[.int .i64 0, .int .i64 0] w fun e w' => e = .returned (.int .u64 ((gB 1 : Nat) : Int)) ∧ w = w') := Lib.hid (fun w => between_g 1 (by omega) w)
        have f2 := Lib.hid (fun A c w hr => make_any (gB 1) (mk_lt _) [1] (by simp) A c w hr)
        have M : Hid (makeC (gB 1) [1] = (freshC (gB 1) [1], 0)) := Lib.hid (makeC_ok (fresh_ok (l := [1]) ⟨by decide, by decide, by decide⟩))
        rw [M.out] at f2
        have hw0 := Lib.hid (show irqWhy ls = 0 by subst hls; rfl)
        clear hls M
        generalize gB 1 = g1 at *
        go_wp2_with fail
        refine (f1.out _).mono ?_
        rintro e w5 ⟨rfl, rfl⟩
        go_wp2_with fail
        refine (f2.out _ _ _ ?_).mono ?_
        · intro j u hu
          exact ⟨_, rfl, by rw [add_zero_lit, Nat.zero_add]; exact new_cell hu⟩
        rintro e w6 h6
        obtain ⟨e0, pA, pc, sA, sc, rfl, hb⟩ := reti_ok h6
        have HQ6 := Lib.hid (box_keep (box_alloc Hq.out (.cells #[.int .i64 1] 3)) hb)
        have HB6 := Lib.hid ((HB.out.alloc HB.out.size (.cells #[.int .i64 1] 3)).trans (hb.mono (by have := HB.out.size; simp; omega)))
        clear hb h6
        have lq6 := box_lt HQ6.out
        obtain ⟨hx6, hy6⟩ := box_rules HQ6.out
        unfold irqC at hx6
        go_wp2_with fail
        go_ret2
        refine ⟨some ⟨w.heap.size, 0, none⟩, by rw [hw0.out]; rfl, fun _ h => (by cases h), ?_⟩
        refine Below.alloc ?_ (by have := HB6.out.size; simp; omega) _
        repeat (with_reducible first | refine Below.setCell ?_ bR _ | refine Below.drew ?_ | refine Below.alloc ?_ HB6.out.size _ | exact HB6.out)
      · have hn0 : ((ls.length : Int) == 0) = false := beq_eq_false_iff_ne.2 (by omega)
        have hn1 : 1 ≤ ls.length := by omega
        have f1 := Lib.hid (fun w => between_g ls.length (by omega) w)
        have f2 := Lib.hid (fun A c w hr => make_any (gB ls.length) (mk_lt _) (ls.map (·.prio)) (by rw [List.length_map]; omega) A c w hr)
        have F := Lib.hid (fresh_ok (l := ls.map (·.prio)))
        have F' := Lib.hid (fresh_only (l := ls.map (·.prio)))
        have P2 : Hid (Rd wr A2 ((ls.map (·.prio)).map (.int .i64))) := by
          have h := own_rdK ho2
          rw [lnPrios, List.take_length] at h
          rw [List.map_map]
          exact h
        simp only [List.length_map] at f2 F F'
        generalize gB ls.length = g1 at *
        by_cases hk : (freshC g1 (ls.map (·.prio))).ok
        · have HK := Lib.hid (F'.out hk)
          rw [makeC_ok hk] at f2
          clear hk F F'
          have hw0 := Lib.hid (irq_good hm.out HK.out)
          go_wp2_with fail
          refine (f1.out _).mono ?_
          rintro e w5 ⟨rfl, rfl⟩
          go_wp2_with fail
          refine (f2.out _ _ _ P2.out).mono ?_
          rintro e w6 h6
          obtain ⟨e0, pA, pc, sA, sc, rfl, hb⟩ := reti_ok h6
          have HQ6 := Lib.hid (box_keep Hq.out hb)
          have HB6 := Lib.hid (HB.out.trans (hb.mono HB.out.size))
          clear hb h6
          have lq6 := box_lt HQ6.out
          obtain ⟨hx6, hy6⟩ := box_rules HQ6.out
          unfold irqC at hx6
          go_wp2_with fail
          go_ret2
          refine ⟨some ⟨w.heap.size, 0, none⟩, by rw [hw0.out]; rfl, fun _ h => (by cases h), ?_⟩
          refine Below.alloc ?_ (by have := HB6.out.size; simp; omega) _
          repeat (with_reducible first | refine Below.setCell ?_ bR _ | refine Below.drew ?_ | refine Below.alloc ?_ HB6.out.size _ | exact HB6.out)
        · rw [makeC_bad hk] at f2
          have hw0 := Lib.hid (irq_bad (fun h => hk (F.out h)))
          clear hk F F'
          go_wp2_with fail
          refine (f1.out _).mono ?_
          rintro e w5 ⟨rfl, rfl⟩
          go_wp2_with fail
          refine (f2.out _ _ _ P2.out).mono ?_
          rintro e w6 h6
          obtain ⟨pA, pc, sA, sc, rfl, hb⟩ := reti_bad h6
          have HB6 := Lib.hid (HB.out.trans (hb.mono HB.out.size))
          clear hb h6
          go_wp2_with fail
          go_ret2
          refine ⟨none, by rw [hw0.out]; rfl, fun h => (by rw [hw0.out] at h; cases h), ?_⟩
          repeat (with_reducible first | refine Below.setCell ?_ bR _ | refine Below.drew ?_ | refine Below.alloc ?_ HB6.out.size _ | exact HB6.out)
end Go.Proofs.YtpncbkodhojicaaDoor

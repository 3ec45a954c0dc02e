/- Packages rta and vergeref28: what stops a task, as data; the walks of ceiling, lag, blocking. Conditions: lists that read. -/
import Derived.Test.YtgampofpabllbaaGreatRtL
import Derived.Test.YtgampofpabllbaaGreatVetH
namespace Go.Proofs.YtgampofpabllbaaGreat
open Go.RowKit

def ceilN (ts : List Tk) (m : Int) : Nat → Int
  | 0 => 0
  | k + 1 => if (ts.getD k tk0).lock = m then max (ceilN ts m k) (ts.getD k tk0).prio else ceilN ts m k
def blockB (ts : List Tk) (p : Int) (t : Tk) : Bool := decide (t.prio < p) && decide (0 ≤ t.lock) && decide (p ≤ ceilN ts t.lock ts.length)
def blockN (ts : List Tk) (p : Int) : Nat → Int
  | 0 => 0
  | k + 1 => if blockB ts p (ts.getD k tk0) then max (blockN ts p k) ((ts.getD k tk0).hi - (ts.getD k tk0).lo) else blockN ts p k
def lagT (mn : Int) (t : Tk) : Int := if t.kind = 1 then mn else 0
def urgT (mn sw : Int) (t : Tk) : Ld := ⟨t.period, lagT mn t, max 1 (t.period - lagT mn t), t.cost + sw⟩
def urgL (mn sw : Int) (ts : List Tk) (p : Int) : Nat → List Ld
  | 0 => []
  | k + 1 => urgL mn sw ts p k ++ if p < (ts.getD k tk0).prio then [urgT mn sw (ts.getD k tk0)] else []
def loadsL (mn sw : Int) (ts : List Tk) (ls : List Ln) (hs : List Th) (p : Int) : List Ld := urgL mn sw ts p ts.length ++ supL hs ls p
theorem urgL_len (mn sw : Int) (ts : List Tk) (p : Int) : ∀ k, (urgL mn sw ts p k).length ≤ k
  | 0 => Nat.le_refl _
  | k + 1 => by
    have ih := urgL_len mn sw ts p k
    show (urgL mn sw ts p k ++ _).length ≤ _
    rw [List.length_append]
    split
    · rw [List.length_singleton]; omega
    · rw [List.length_nil]; omega
theorem urgL_yes {mn sw : Int} {ts : List Tk} {p : Int} {k : Nat} {x : Tk} (hx : ts.getD k tk0 = x) (h : p < x.prio) : urgL mn sw ts p (k + 1) = urgL mn sw ts p k ++ [urgT mn sw x] := by
  show urgL mn sw ts p k ++ _ = _
  rw [hx, if_pos h]
theorem urgL_no {mn sw : Int} {ts : List Tk} {p : Int} {k : Nat} {x : Tk} (hx : ts.getD k tk0 = x) (h : ¬ p < x.prio) : urgL mn sw ts p (k + 1) = urgL mn sw ts p k := by
  show urgL mn sw ts p k ++ _ = _
  rw [hx, if_neg h, List.append_nil]
theorem ceilN_yes {ts : List Tk} {m : Int} {k : Nat} {x : Tk} (hx : ts.getD k tk0 = x) (h : x.lock = m) : ceilN ts m (k + 1) = max (ceilN ts m k) x.prio := by
  show (if _ then _ else _) = _
  rw [hx, if_pos h]
theorem ceilN_no {ts : List Tk} {m : Int} {k : Nat} {x : Tk} (hx : ts.getD k tk0 = x) (h : x.lock ≠ m) : ceilN ts m (k + 1) = ceilN ts m k := by
  show (if _ then _ else _) = _
  rw [hx, if_neg h]
theorem blockN_of {ts : List Tk} {p : Int} {k : Nat} {x : Tk} (hx : ts.getD k tk0 = x) : blockN ts p (k + 1) = if blockB ts p x then max (blockN ts p k) (x.hi - x.lo) else blockN ts p k := by
  show (if _ then _ else _) = _
  rw [hx]
theorem blockN_in {ts : List Tk} {ch p : Int} (h : ∀ t ∈ ts, TkIn t ch) : ∀ k, k ≤ ts.length → 0 ≤ blockN ts p k ∧ blockN ts p k ≤ 1099511627776
  | 0, _ => ⟨Int.le_refl _, (show (0 : Int) ≤ _ by omega)⟩
  | k + 1, hk => by
    have ih := blockN_in (p := p) h k (by omega)
    rw [blockN_of rfl]
    split
    · rename_i hb
      have ht := h _ (getD_mem (d := tk0) (by omega : k < ts.length))
      unfold blockB at hb
      simp only [Bool.and_eq_true, decide_eq_true_eq] at hb
      have := ht.held hb.1.2
      have := ht.cost
      have := ht.deadline
      have := ht.period
      omega
    · exact ih
/-- A sheet's cells. -/
def shc (mn mx sw : Int) (A : Option Addr) (na ca : Nat) (B : Option Addr) (nb cb : Nat) (D : Option Addr) (nd cd : Nat) (t : Tk) : Array Value :=
  #[.int .i64 mn, .int .i64 mx, .int .i64 sw, .slice A na ca, .slice B nb cb, .slice D nd cd, .int .u8 t.kind, .int .i64 t.prio, .int .i64 t.period, .int .i64 t.offset, .int .i64 t.deadline, .int .i64 t.cost, .int .i64 t.room, .int .i64 t.lock, .int .i64 t.lo, .int .i64 t.hi]

set_option maxHeartbeats 1000000 in
theorem ceil14_any (ts : List Tk) (m : Int) (hl : ts.length ≤ 1048576) (A : Option Addr) (c : Nat) (w : World) (ht : Rd w A (ts.flatMap tkc)) :
    Calls Tryz.prog 97 #[.slice A ts.length c, .int .i64 m] w fun e w' => e = .returned (.int .i64 (ceilN ts m ts.length)) ∧ Below w.heap.size w w' := by
  have Ht := Lib.hid ht
  clear ht
  go_enter Tryz.func97, Tryz.ntmps97
  go_wp2
  go_loopw [5, 10] (fun s i wr => ∃ k : Nat, k ≤ ts.length ∧ i = .int .i64 k ∧ s = .int .i64 (ceilN ts m k) ∧ Below w.heap.size w wr) (fun _ i _ => ts.length - (intOf i).toNat)
  case atStart => exact ⟨0, by omega, rfl, rfl, Below.refl _ _⟩
  case round =>
    obtain ⟨k, hk, rfl, rfl, hB⟩ := hrel
    have sB := hB.size
    by_cases hlt : k < ts.length
    · obtain ⟨a, x, rfl, hx2, ⟨g0, g1, g2, g3⟩, g4, g5, g6, g7, g8, g9⟩ := (Ht.out.below hB).tkAt hlt
      have HB := Lib.hid hB
      by_cases hl : x.lock = m
      · have HS := Lib.hid (ceilN_yes hx2 hl)
        clear hB hx2
        obtain ⟨x0, x1, x2, x3, x4, x5, x6, x7, x8, x9⟩ := x
        dsimp only at g0 g1 g2 g3 g4 g5 g6 g7 g8 g9 hl HS
        subst hl
        generalize hc : ceilN ts x7 k = c at *
        have HC := Lib.hid hc
        clear hc
        go_wp2
        all_goals
          go_roundw
          case rel => exact ⟨k + 1, by omega, by go_num, by rw [HS.out]; first | (rw [show max c x1 = if c < x1 then x1 else c by split <;> omega]) | (rw [show max c x1 = c by omega]) | (rw [show max c x1 = x1 by omega]), HB.out.alloc sB _⟩
          case measure => simp [intOf]; omega
      · have HS := Lib.hid (ceilN_no hx2 hl)
        have hl2 : (x.lock == m) = false := by simpa using hl
        clear hB hx2 hl
        obtain ⟨x0, x1, x2, x3, x4, x5, x6, x7, x8, x9⟩ := x
        dsimp only at g0 g1 g2 g3 g4 g5 g6 g7 g8 g9 hl2 HS
        go_wp2
        go_roundw
        case rel => exact ⟨k + 1, by omega, by go_num, by rw [HS.out], HB.out.alloc sB _⟩
        case measure => simp [intOf]; omega
    · obtain rfl : k = ts.length := by omega
      have HB := Lib.hid hB
      clear hB
      go_wp2
      go_ret
      exact ⟨rfl, HB.out⟩
set_option maxHeartbeats 1000000 in
theorem ceil_any (mn mx sw : Int) (ts : List Tk) (A : Option Addr) (ca : Nat) (B : Option Addr) (nb cb : Nat) (D : Option Addr) (nd cd : Nat) (t : Tk) (b : Nat) (m : Int) (hl : ts.length ≤ 1048576) (w : World) (ht : Rd w A (ts.flatMap tkc))
    (hc : w.heap[b]? = some (.cells (shc mn mx sw A ts.length ca B nb cb D nd cd t) 140 (0, 0))) :
    Calls Tryz.prog 137 #[.pointer (some ⟨b, 0, none⟩), .int .i64 m] w fun e w' => e = .returned (.int .i64 (ceilN ts m ts.length)) ∧ Below w.heap.size w w' := by
  have Ht := Lib.hid ht
  unfold shc at hc
  obtain ⟨hx, hy⟩ := box_rules hc
  clear ht hc
  go_enter Tryz.func137, Tryz.ntmps137
  go_wp2
  go_loopw [5, 14] (fun s i wr => ∃ k : Nat, k ≤ ts.length ∧ i = .int .i64 k ∧ s = .int .i64 (ceilN ts m k) ∧ Below w.heap.size w wr) (fun _ i _ => ts.length - (intOf i).toNat)
  case atStart => exact ⟨0, by omega, rfl, rfl, Below.refl _ _⟩
  case round =>
    obtain ⟨k, hk, rfl, rfl, hB⟩ := hrel
    have sB := hB.size
    by_cases hlt : k < ts.length
    · obtain ⟨a, x, rfl, hx2, ⟨g0, g1, g2, g3⟩, g4, g5, g6, g7, g8, g9⟩ := (Ht.out.below hB).tkAt hlt
      have HB := Lib.hid hB
      by_cases hl : x.lock = m
      · have HS := Lib.hid (ceilN_yes hx2 hl)
        clear hB hx2
        obtain ⟨x0, x1, x2, x3, x4, x5, x6, x7, x8, x9⟩ := x
        dsimp only at g0 g1 g2 g3 g4 g5 g6 g7 g8 g9 hl HS
        subst hl
        generalize hc : ceilN ts x7 k = c at *
        have HC := Lib.hid hc
        clear hc
        go_wp2
        all_goals
          go_roundw
          case rel => exact ⟨k + 1, by omega, by go_num, by rw [HS.out]; first | (rw [show max c x1 = if c < x1 then x1 else c by split <;> omega]) | (rw [show max c x1 = c by omega]) | (rw [show max c x1 = x1 by omega]), HB.out.alloc sB _⟩
          case measure => simp [intOf]; omega
      · have HS := Lib.hid (ceilN_no hx2 hl)
        have hl2 : (x.lock == m) = false := by simpa using hl
        clear hB hx2 hl
        obtain ⟨x0, x1, x2, x3, x4, x5, x6, x7, x8, x9⟩ := x
        dsimp only at g0 g1 g2 g3 g4 g5 g6 g7 g8 g9 hl2 HS
        go_wp2
        go_roundw
        case rel => exact ⟨k + 1, by omega, by go_num, by rw [HS.out], HB.out.alloc sB _⟩
        case measure => simp [intOf]; omega
    · obtain rfl : k = ts.length := by omega
      have HB := Lib.hid hB
      clear hB
      go_wp2
      go_ret
      exact ⟨rfl, HB.out⟩
theorem lag_any (mn mx sw : Int) (A : Option Addr) (na ca : Nat) (B : Option Addr) (nb cb : Nat) (D : Option Addr) (nd cd : Nat) (t x : Tk) (b : Nat) (w : World)
    (hc : w.heap[b]? = some (.cells (shc mn mx sw A na ca B nb cb D nd cd t) 140 (0, 0))) :
    Calls Tryz.prog 90 #[.pointer (some ⟨b, 0, none⟩), tkv x] w fun e w' => e = .returned (.int .i64 (lagT mn x)) ∧ Below w.heap.size w w' := by
  have HC := Lib.hid (box_alloc hc (.cells (tkc x).toArray 43))
  clear hc
  unfold shc tkc at HC
  obtain ⟨hx, hy⟩ := box_rules HC.out
  obtain ⟨x0, x1, x2, x3, x4, x5, x6, x7, x8, x9⟩ := x
  unfold tkv lagT
  dsimp only at *
  by_cases h : x0 = 1
  · subst h
    go_enter Tryz.func90, Tryz.ntmps90
    go_wp2
    go_ret
    exact ⟨rfl, (Below.refl _ _).alloc (Nat.le_refl _) _⟩
  · rw [if_neg h]
    have h1 : (x0 == 1) = false := by simpa using h
    go_enter Tryz.func90, Tryz.ntmps90
    go_wp2
    go_ret
    exact ⟨rfl, (Below.refl _ _).alloc (Nat.le_refl _) _⟩
theorem lag28_any (mn mx sw : Int) (A : Option Addr) (na ca : Nat) (B : Option Addr) (nb cb : Nat) (D : Option Addr) (nd cd : Nat) (x : Tk) (w : World) :
    Calls Tryz.prog 38 #[cfv mn mx sw A na ca B nb cb D nd cd, tkv x] w fun e w' => e = .returned (.int .i64 (lagT mn x)) ∧ Below w.heap.size w w' := by
  obtain ⟨x0, x1, x2, x3, x4, x5, x6, x7, x8, x9⟩ := x
  unfold tkv lagT cfv
  dsimp only at *
  by_cases h : x0 = 1
  · subst h
    go_enter Tryz.func38, Tryz.ntmps38
    go_wp2
    go_ret
    exact ⟨rfl, ((Below.refl _ _).alloc (Nat.le_refl _) _).alloc (by simp) _⟩
  · rw [if_neg h]
    have h1 : (x0 == 1) = false := by simpa using h
    go_enter Tryz.func38, Tryz.ntmps38
    go_wp2
    go_ret
    exact ⟨rfl, ((Below.refl _ _).alloc (Nat.le_refl _) _).alloc (by simp) _⟩
end Go.Proofs.YtgampofpabllbaaGreat

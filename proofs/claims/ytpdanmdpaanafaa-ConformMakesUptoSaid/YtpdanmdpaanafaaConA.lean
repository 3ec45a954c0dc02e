/- Package conform: acts and marks as data; the walks of one, task, line, act, sporadic, apart. Conditions: lists that read. -/
import Derived.Test.YtpdanmdpaanafaaVetH
namespace Go.Proofs.Ytpdanmdpaanafaa
open Go.RowKit Go.Shelf

/-- An act's data. -/
structure Ac where
  kind : Int
  who : Int
  n : Int
  m : Int
def acv (x : Ac) : Value := .agg #[.int .u8 x.kind, .int .i64 x.who, .int .i64 x.n, .int .i64 x.m]
def acc (x : Ac) : List Value := [.int .u8 x.kind, .int .i64 x.who, .int .i64 x.n, .int .i64 x.m]
/-- A mark's data. -/
structure Mk where
  time : Int
  kind : Int
  who : Int
  a : Int
def mkv (x : Mk) : Value := .agg #[.int .i64 x.time, .int .u8 x.kind, .int .i64 x.who, .int .i64 x.a]
def mkc (x : Mk) : List Value := [.int .i64 x.time, .int .u8 x.kind, .int .i64 x.who, .int .i64 x.a]
def ac0 : Ac := ⟨0, 0, 0, 0⟩
def mk0 : Mk := ⟨0, 0, 0, 0⟩
def ln0 : Ln := ⟨0, 0, 0, 0⟩
theorem Rd.acAt {w : World} {A : Option Addr} {ts : List Ac} (h : Rd w A (ts.flatMap acc)) {k : Nat} (hk : k < ts.length) : ∃ a x, A = some a ∧ ts.getD k ac0 = x ∧
    w.cell? (a.add (k * 4)) = some (.int .u8 x.kind) ∧ w.cell? ⟨(a.add (k * 4)).block, (a.add (k * 4)).off + 1, none⟩ = some (.int .i64 x.who) ∧
    w.cell? ⟨(a.add (k * 4)).block, (a.add (k * 4)).off + 2, none⟩ = some (.int .i64 x.n) ∧ w.cell? ⟨(a.add (k * 4)).block, (a.add (k * 4)).off + 3, none⟩ = some (.int .i64 x.m) := by
  have g := flatMap_get (f := acc) (k := 4) (fun _ => rfl) ac0 ts k hk
  generalize ts.getD k ac0 = x at *
  obtain ⟨a, rfl, h0⟩ := h _ _ (g 0 (by omega))
  obtain ⟨_, ha1, h1⟩ := h _ _ (g 1 (by omega)); cases ha1
  obtain ⟨_, ha1, h2⟩ := h _ _ (g 2 (by omega)); cases ha1
  obtain ⟨_, ha1, h3⟩ := h _ _ (g 3 (by omega)); cases ha1
  rw [Nat.add_zero] at h0
  rw [add_plus _ _ _ (by omega)] at h1 h2 h3
  exact ⟨a, x, rfl, rfl, h0, h1, h2, h3⟩
theorem Rd.mkAt {w : World} {A : Option Addr} {ts : List Mk} (h : Rd w A (ts.flatMap mkc)) {k : Nat} (hk : k < ts.length) : ∃ a x, A = some a ∧ ts.getD k mk0 = x ∧
    w.cell? (a.add (k * 4)) = some (.int .i64 x.time) ∧ w.cell? ⟨(a.add (k * 4)).block, (a.add (k * 4)).off + 1, none⟩ = some (.int .u8 x.kind) ∧
    w.cell? ⟨(a.add (k * 4)).block, (a.add (k * 4)).off + 2, none⟩ = some (.int .i64 x.who) ∧ w.cell? ⟨(a.add (k * 4)).block, (a.add (k * 4)).off + 3, none⟩ = some (.int .i64 x.a) := by
  have g := flatMap_get (f := mkc) (k := 4) (fun _ => rfl) mk0 ts k hk
  generalize ts.getD k mk0 = x at *
  obtain ⟨a, rfl, h0⟩ := h _ _ (g 0 (by omega))
  obtain ⟨_, ha1, h1⟩ := h _ _ (g 1 (by omega)); cases ha1
  obtain ⟨_, ha1, h2⟩ := h _ _ (g 2 (by omega)); cases ha1
  obtain ⟨_, ha1, h3⟩ := h _ _ (g 3 (by omega)); cases ha1
  rw [Nat.add_zero] at h0
  rw [add_plus _ _ _ (by omega)] at h1 h2 h3
  exact ⟨a, x, rfl, rfl, h0, h1, h2, h3⟩
/-- The row's place that is asked for. -/
def inR (i : Int) (n : Nat) : Bool := decide (0 ≤ i) && decide (i < (n : Int))
theorem one_task_no (A : Option Addr) (n c : Nat) (i : Int) (h : inR i n = false) (w : World) :
    Calls Try.prog 76 #[.slice A n c, .int .i64 i] w fun e w' => e = .returned (.pointer none) ∧ w = w' := by
  unfold inR at h
  go_enter Try.func76, Try.ntmps76
  by_cases h0 : i < 0
  · go_wp2
    go_ret
    exact ⟨rfl, rfl⟩
  · have h1 : (n : Int) ≤ i := by
      simp at h; omega
    go_wp2
    go_ret
    exact ⟨rfl, rfl⟩
theorem one_task (a : Addr) (n c k : Nat) (h : k < n) (w : World) :
    Calls Try.prog 76 #[.slice (some a) n c, .int .i64 k] w fun e w' => e = .returned (.pointer (some (a.add (k * 10)))) ∧ w = w' := by
  go_enter Try.func76, Try.ntmps76
  go_wp2
  go_ret
  exact ⟨rfl, rfl⟩
theorem one_line_no (A : Option Addr) (n c : Nat) (i : Int) (h : inR i n = false) (w : World) :
    Calls Try.prog 75 #[.slice A n c, .int .i64 i] w fun e w' => e = .returned (.pointer none) ∧ w = w' := by
  unfold inR at h
  go_enter Try.func75, Try.ntmps75
  by_cases h0 : i < 0
  · go_wp2
    go_ret
    exact ⟨rfl, rfl⟩
  · have h1 : (n : Int) ≤ i := by
      simp at h; omega
    go_wp2
    go_ret
    exact ⟨rfl, rfl⟩
theorem one_line (a : Addr) (n c k : Nat) (h : k < n) (w : World) :
    Calls Try.prog 75 #[.slice (some a) n c, .int .i64 k] w fun e w' => e = .returned (.pointer (some (a.add (k * 4)))) ∧ w = w' := by
  go_enter Try.func75, Try.ntmps75
  go_wp2
  go_ret
  exact ⟨rfl, rfl⟩
/-- A configuration's cells. -/
def cfc (mn mx sw : Int) (A : Option Addr) (na ca : Nat) (B : Option Addr) (nb cb : Nat) (D : Option Addr) (nd cd : Nat) : Array Value := #[.int .i64 mn, .int .i64 mx, .int .i64 sw, .slice A na ca, .slice B nb cb, .slice D nd cd]
theorem deal_task_no (mn mx sw : Int) (A : Option Addr) (na ca : Nat) (B : Option Addr) (nb cb : Nat) (D : Option Addr) (nd cd : Nat) (b : Nat) (i : Int) (h : inR i na = false) (w : World)
    (hc : w.heap[b]? = some (.cells (cfc mn mx sw A na ca B nb cb D nd cd) 124 (0, 0))) :
    Calls Try.prog 51 #[.pointer (some ⟨b, 0, none⟩), .int .i64 i] w fun e w' => e = .returned (.pointer none) ∧ w = w' := by
  unfold cfc at hc
  have f := Lib.hid (fun c w => one_task_no A na c i h w)
  obtain ⟨hx, hy⟩ := box_rules hc
  clear h
  go_enter Try.func51, Try.ntmps51
  go_wp2_with (refine (f.out _ _).mono ?_; rintro e w' ⟨rfl, rfl⟩)
  go_ret
  exact ⟨rfl, rfl⟩
theorem deal_line_no (mn mx sw : Int) (A : Option Addr) (na ca : Nat) (B : Option Addr) (nb cb : Nat) (D : Option Addr) (nd cd : Nat) (b : Nat) (i : Int) (h : inR i nb = false) (w : World)
    (hc : w.heap[b]? = some (.cells (cfc mn mx sw A na ca B nb cb D nd cd) 124 (0, 0))) :
    Calls Try.prog 50 #[.pointer (some ⟨b, 0, none⟩), .int .i64 i] w fun e w' => e = .returned (.pointer none) ∧ w = w' := by
  unfold cfc at hc
  have f := Lib.hid (fun c w => one_line_no B nb c i h w)
  obtain ⟨hx, hy⟩ := box_rules hc
  clear h
  go_enter Try.func50, Try.ntmps50
  go_wp2_with (refine (f.out _ _).mono ?_; rintro e w' ⟨rfl, rfl⟩)
  go_ret
  exact ⟨rfl, rfl⟩
theorem deal_task (mn mx sw : Int) (a : Addr) (na ca : Nat) (B : Option Addr) (nb cb : Nat) (D : Option Addr) (nd cd : Nat) (b k : Nat) (h : k < na) (w : World)
    (hc : w.heap[b]? = some (.cells (cfc mn mx sw (some a) na ca B nb cb D nd cd) 124 (0, 0))) :
    Calls Try.prog 51 #[.pointer (some ⟨b, 0, none⟩), .int .i64 k] w fun e w' => e = .returned (.pointer (some (a.add (k * 10)))) ∧ w = w' := by
  unfold cfc at hc
  have f := Lib.hid (fun c w => one_task a na c k h w)
  obtain ⟨hx, hy⟩ := box_rules hc
  clear h
  go_enter Try.func51, Try.ntmps51
  go_wp2_with (refine (f.out _ _).mono ?_; rintro e w' ⟨rfl, rfl⟩)
  go_ret
  exact ⟨rfl, rfl⟩
theorem deal_line (mn mx sw : Int) (A : Option Addr) (na ca : Nat) (a : Addr) (nb cb : Nat) (D : Option Addr) (nd cd : Nat) (b k : Nat) (h : k < nb) (w : World)
    (hc : w.heap[b]? = some (.cells (cfc mn mx sw A na ca (some a) nb cb D nd cd) 124 (0, 0))) :
    Calls Try.prog 50 #[.pointer (some ⟨b, 0, none⟩), .int .i64 k] w fun e w' => e = .returned (.pointer (some (a.add (k * 4)))) ∧ w = w' := by
  unfold cfc at hc
  have f := Lib.hid (fun c w => one_line a nb c k h w)
  obtain ⟨hx, hy⟩ := box_rules hc
  clear h
  go_enter Try.func50, Try.ntmps50
  go_wp2_with (refine (f.out _ _).mono ?_; rintro e w' ⟨rfl, rfl⟩)
  go_ret
  exact ⟨rfl, rfl⟩
/-- Whether an act conforms. -/
def actOk (ts : List Tk) (ls : List Ln) (x : Ac) : Bool :=
  if x.kind = 3 ∨ x.kind = 4 ∨ x.kind = 5 then !inR x.who ts.length || decide (x.n ≤ (ts.getD x.who.toNat tk0).cost)
  else if x.kind = 2 then !inR x.who ls.length || decide (x.n ≤ (ls.getD x.who.toNat ln0).top)
  else if x.kind = 6 ∨ x.kind = 7 then !inR x.who ts.length else true
/-- Whether a mark is of a sporadic task's job that comes. -/
def comes (ts : List Tk) (m : Mk) : Bool := decide (m.kind = 1 ∨ m.kind = 3) && (inR m.who ts.length && decide ((ts.getD m.who.toNat tk0).kind = 2))
/-- Whether a time is so far behind another one. -/
def apartB (t last by' : Int) : Bool := decide (last ≤ t) && decide (IntKind.u64.wrap by' ≤ IntKind.u64.wrap (IntKind.u64.wrap t - IntKind.u64.wrap last))
theorem apart_any (t l y : Int) (w : World) : Calls Try.prog 48 #[.int .i64 t, .int .i64 l, .int .i64 y] w fun e w' => e = .returned (.bool (apartB t l y)) ∧ w = w' := by
  unfold apartB
  go_enter Try.func48, Try.ntmps48
  by_cases h : l ≤ t
  · go_wp2
    go_ret
    exact ⟨ret_bool (by simp [h]), rfl⟩
  · go_wp2
    go_ret
    exact ⟨ret_bool (by simp; exact fun h2 => absurd h2 (by omega)), rfl⟩
end Go.Proofs.Ytpdanmdpaanafaa

/- vergelaw19: new lines as an object, by, vergeref05.Same of two that are one; the walk of lives. Conditions: the de Bruijn table. -/
import Derived.Test.YtpncbkodhojicaaDoorQdGIc
namespace Go.Proofs.YtpncbkodhojicaaDoor
open Go.RowKit Go.Shelf
attribute [local go_sem] Oper.semAt_some
theorem QI.fresh {ls : List Ln} {xs : List Lq} (hw : irqWhy ls = 0) (hh : xs.map Lq.how = ls) (hn : ∀ x ∈ xs, x = lnNew x.how x.mb x.mg) : QI 0 ⟨xs, [], 0⟩ := by
  have h0 : (ls.all lnMade && ls.all (fun x => prOk x.prio) && decide (ls.length ≤ 64)) = true := by
    apply Classical.byContradiction
    intro h9
    unfold irqWhy at hw
    rw [if_neg h9] at hw
    omega
  simp only [Bool.and_eq_true, decide_eq_true_eq, List.all_eq_true] at h0
  refine ⟨⟨Int.le_refl _, by show (0 : Int) ≤ 4503599627370496; omega⟩, by have := congrArg List.length hh; rw [List.length_map] at this; show xs.length ≤ 64; omega, fun x hx => ?_, fun b hb => (by cases hb), fun b hb => (by cases hb), List.Pairwise.nil⟩
  have hm : x.how ∈ ls := by rw [← hh]; exact List.mem_map.2 ⟨x, hx, rfl⟩
  have h1 := h0.1.1 _ hm
  have h2 := h0.1.2 _ hm
  unfold lnMade at h1
  unfold prOk at h2
  simp only [Bool.and_eq_true, decide_eq_true_eq] at h1 h2
  obtain ⟨⟨m1, m2⟩, m3, m4⟩ := stOk_true h1.1
  rw [hn x hx]
  exact ⟨h2, ⟨m1, m2⟩, ⟨m3, m4⟩, by show (0 : Int) ≤ x.how.many; omega, List.Pairwise.nil, (fun t ht => by cases ht), ⟨Int.le_refl _, Int.le_refl _⟩, ⟨Int.le_refl _, Int.le_refl _⟩, ⟨Int.le_refl _, by show (0 : Int) ≤ 1099511627776; omega⟩, ⟨Int.le_refl _, by show (0 : Int) ≤ 1099511627776; omega⟩⟩
/-- New lines, or none. -/
def RetNw (w : World) (ls : List Ln) (W : World) (e : Ending) (W' : World) : Prop :=
  if irqWhy ls = 0 then ∃ p xs, e = .returned (.tuple #[.pointer (some ⟨p, 0, none⟩), .int .i64 0]) ∧ IqO w p [] ⟨xs, [], 0⟩ W' ∧ xs.map Lq.how = ls ∧ (∀ x ∈ xs, x = lnNew x.how x.mb x.mg) ∧ Below W.heap.size W W'
  else e = .returned (.tuple #[.pointer none, .int .i64 1]) ∧ Below W.heap.size W W'
theorem o_new (ls : List Ln) (hl : ls.length ≤ 1048576) (A : Option Addr) (c : Nat) (w W : World) (hw : w.heap.size ≤ W.heap.size) (hr : Rd W A (ls.flatMap lnc)) :
    Calls Tryd.prog 6 #[.slice A ls.length c] W (RetNw w ls W) := (inew_any ls hl A c W hr).mono fun e W' h => by
  unfold RetQm at h
  unfold RetNw
  by_cases h0 : irqWhy ls = 0
  · rw [if_pos h0] at h ⊢
    obtain ⟨f, xs, h1, h2, h3, h4, h5, h6⟩ := h
    exact ⟨f.p, xs, h1, ⟨f, rfl, h2 _ (fun b hb => (by cases hb)), fun k hk => ⟨Nat.le_trans hw (h5 k hk), fun h => (by cases h)⟩⟩, h3, h4, h6⟩
  · rw [if_neg h0] at h ⊢; exact h
set_option maxHeartbeats 2000000 in
theorem same_eqq (A : Option Addr) (c : Nat) (B : Option Addr) (c' : Nat) (xs : List Int) (w : World) (hl : xs.length ≤ 549755813888) (h1 : Rd w A (xs.map (.int .i64))) (h2 : Rd w B (xs.map (.int .i64))) :
    Calls Tryd.prog 24 #[.slice A xs.length c, .slice B xs.length c'] w fun e w' => e = .returned (.bool true) ∧ ∃ k, w.drewN k = w' := by
  have H1 := Lib.hid h1; clear h1
  have H2 := Lib.hid h2; clear h2
  go_enter Tryd.func24, Tryd.ntmps24
  go_wp2
  go_loopw [5, 13] (fun _ i wr => ∃ k n : Nat, k ≤ xs.length ∧ i = .int .i64 k ∧ wr = w.drewN n) (fun _ i _ => xs.length - (intOf i).toNat)
  case atStart => exact ⟨0, 0, by omega, rfl, rfl⟩
  case round =>
    obtain ⟨k, n, hk, rfl, rfl⟩ := hrel
    by_cases hlt : k < xs.length
    · obtain ⟨a, ha, g1⟩ := H1.out.int hlt
      obtain ⟨b, hb, g2⟩ := H2.out.int hlt
      subst ha hb
      generalize xs.getD k 0 = x at *
      go_wp2
      go_big_quiet (fail)
      go_wp2
      go_roundw
      case rel => exact ⟨k + 1, _, by omega, by go_num, rfl⟩
      case measure => simp [intOf]; omega
    · obtain rfl : k = xs.length := by omega
      go_wp2
      go_ret
      exact ⟨rfl, n, rfl⟩
def byS (t n : Int) : Int := if n < 0 ∨ 4503599627370496 - t < n then -1 else t + n
set_option maxHeartbeats 2000000 in
theorem by_any (t n : Int) (w : World) (h0 : 0 ≤ t) (h1 : t ≤ 4503599627370496) : Calls Tryd.prog 20 #[.int .i64 t, .int .i64 n] w fun e w' => e = .returned (.int .i64 (byS t n)) ∧ w = w' := by
  unfold byS
  by_cases q0 : n < 0
  · rw [if_pos (.inl q0)]
    go_enter Tryd.func20, Tryd.ntmps20
    go_wp2
    go_ret
    exact ⟨rfl, rfl⟩
  · have e1 : wrap64 (4503599627370496 - t) = 4503599627370496 - t := Go.IntWalk.wrap64_in _ (by omega)
    have e2 : IntKind.i64.wrap (4503599627370496 - t) = 4503599627370496 - t := IntWalk.i64_in _ (by omega)
    have z0 : decide (n < 0) = false := decide_eq_false q0
    by_cases q1 : 4503599627370496 - t < n
    · have z1 : decide (4503599627370496 - t < n) = true := decide_eq_true q1
      rw [if_pos (.inr q1)]
      go_enter Tryd.func20, Tryd.ntmps20
      go_wp2
      go_ret
      exact ⟨rfl, rfl⟩
    · have z1 : decide (4503599627370496 - t < n) = false := decide_eq_false q1
      have e3 : wrap64 (t + n) = t + n := Go.IntWalk.wrap64_in _ (by omega)
      rw [if_neg (by omega)]
      go_enter Tryd.func20, Tryd.ntmps20
      go_wp2
      go_ret
      exact ⟨by first | rfl | rw [e3], rfl⟩
/-- The lines of lives, and where they stand. -/
def va (p0 g0 : Nat) (L : List Int) (masked pending : Bool) (top served : Int) : Lq := ⟨⟨3, 9, 1, 10⟩, p0, g0, L, masked, pending, top, 0, 0, served⟩
def vb (p1 g1 : Nat) (L : List Int) (pending : Bool) (top bottom lost served : Int) : Lq := ⟨⟨5, 9, 2, 10⟩, p1, g1, L, false, pending, top, bottom, lost, served⟩
section
variable (p0 g0 p1 g1 : Nat)
def vs0 : Qs := ⟨[va p0 g0 [] false false 0 0, vb p1 g1 [] false 0 0 0 0], [], 0⟩
def vs1 : Qs := ⟨[va p0 g0 [] false true 4 0, vb p1 g1 [] false 0 0 0 0], [], 0⟩
def vs2 : Qs := ⟨[va p0 g0 [1] false false 4 1, vb p1 g1 [] false 0 0 0 0], [⟨0, 4, 0⟩], 1⟩
def vs3 : Qs := ⟨[va p0 g0 [1] false false 4 1, vb p1 g1 [] true 2 7 0 0], [⟨0, 4, 0⟩], 1⟩
def vs4 : Qs := ⟨[va p0 g0 [1] false false 4 1, vb p1 g1 [] true 2 7 1 0], [⟨0, 4, 0⟩], 1⟩
def vs5 : Qs := ⟨[va p0 g0 [1] false false 4 1, vb p1 g1 [2] false 2 7 1 1], [⟨0, 4, 0⟩, ⟨1, 2, 7⟩], 2⟩
def vs6 : Qs := ⟨[va p0 g0 [1] false false 4 1, vb p1 g1 [2] false 2 7 1 1], [⟨0, 4, 0⟩], 2⟩
def vs7 : Qs := ⟨[va p0 g0 [1] false false 4 1, vb p1 g1 [2] false 2 7 1 1], [], 2⟩
def vs8 : Qs := ⟨[va p0 g0 [1] false true 4 1, vb p1 g1 [2] false 2 7 1 1], [], 2⟩
def vs9 : Qs := ⟨[va p0 g0 [1] true true 4 1, vb p1 g1 [2] false 2 7 1 1], [], 8⟩
def vs10 : Qs := ⟨[va p0 g0 [] false true 4 1, vb p1 g1 [2] false 2 7 1 1], [], 11⟩
theorem ve1 : raiseC (vs0 p0 g0 p1 g1) 0 4 0 = 0 ∧ raiseS (vs0 p0 g0 p1 g1) 0 4 0 = vs1 p0 g0 p1 g1 := ⟨rfl, rfl⟩
theorem ve2 : takeA (vs1 p0 g0 p1 g1) 1 = (vs2 p0 g0 p1 g1, 0, true, 0) := rfl
theorem ve3 : raiseC (vs2 p0 g0 p1 g1) 1 2 7 = 0 ∧ raiseS (vs2 p0 g0 p1 g1) 1 2 7 = vs3 p0 g0 p1 g1 := ⟨rfl, rfl⟩
theorem ve4 : raiseC (vs3 p0 g0 p1 g1) 1 2 7 = 4 ∧ raiseS (vs3 p0 g0 p1 g1) 1 2 7 = vs4 p0 g0 p1 g1 := ⟨rfl, rfl⟩
theorem ve5 : raiseC (vs4 p0 g0 p1 g1) 2 2 7 = 1 ∧ raiseS (vs4 p0 g0 p1 g1) 2 2 7 = vs4 p0 g0 p1 g1 := ⟨rfl, rfl⟩
theorem ve6 : takeA (vs4 p0 g0 p1 g1) 2 = (vs5 p0 g0 p1 g1, 1, true, 0) := rfl
theorem ve7 : takeA (vs5 p0 g0 p1 g1) 2 = (vs5 p0 g0 p1 g1, 0, false, 0) := rfl
theorem ve8 : leftS (vs5 p0 g0 p1 g1) = 2 := rfl
theorem ve9 : runT19 (vs5 p0 g0 p1 g1) 2 = tpv 1 7 ∧ runD (vs5 p0 g0 p1 g1) 2 = true ∧ runC (vs5 p0 g0 p1 g1) 2 = 0 ∧ runS (vs5 p0 g0 p1 g1) 2 = vs6 p0 g0 p1 g1 := ⟨rfl, rfl, rfl, rfl⟩
theorem ve10 : actA (vs6 p0 g0 p1 g1) = (0, true) := rfl
theorem ve11 : runT19 (vs6 p0 g0 p1 g1) 4 = tpv 0 0 ∧ runD (vs6 p0 g0 p1 g1) 4 = true ∧ runC (vs6 p0 g0 p1 g1) 4 = 0 ∧ runS (vs6 p0 g0 p1 g1) 4 = vs7 p0 g0 p1 g1 := ⟨rfl, rfl, rfl, rfl⟩
theorem ve12 : raiseC (vs7 p0 g0 p1 g1) 0 4 0 = 0 ∧ raiseS (vs7 p0 g0 p1 g1) 0 4 0 = vs8 p0 g0 p1 g1 := ⟨rfl, rfl⟩
theorem ve13 : takeA (vs8 p0 g0 p1 g1) 8 = (vs9 p0 g0 p1 g1, 0, false, 0) := rfl
theorem ve14 : nextM (vs9 p0 g0 p1 g1) (vs9 p0 g0 p1 g1).ls.length = (11, true) := rfl
theorem ve15 : unmA (vs9 p0 g0 p1 g1) 11 = (vs10 p0 g0 p1 g1, [0], 0) := rfl
theorem ve16 : unmA (vs10 p0 g0 p1 g1) 10 = (vs10 p0 g0 p1 g1, [], 1) := rfl
end
end Go.Proofs.YtpncbkodhojicaaDoor

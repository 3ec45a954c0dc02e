/- Package admit: bounds as data; the walks of bounds and of what it hands back. Conditions: lists that read; a configuration that is right. -/
import Derived.Test.YtlnjeelbfokdpaaRtSQ
namespace Go.Proofs.Ytlnjeelbfokdpaa
open Go.RowKit Go.Shelf
attribute [local go_sem] Oper.semAt_some

/-- A task's bound, or why it has none. -/
def bdF (mn sw : Int) (ts : List Tk) (ls : List Ln) (hs : List Th) (k : Nat) : Int × Int := boundR mn sw ts ls hs (ts.getD k tk0)
def bdS (f : Nat → Int × Int) (k : Nat) : List (Int × Int) := (List.range k).map f
theorem bdS_succ (f : Nat → Int × Int) (k : Nat) : bdS f (k + 1) = bdS f k ++ [f k] := by unfold bdS; rw [List.range_succ, List.map_append]; rfl
theorem bdS_len (f : Nat → Int × Int) (k : Nat) : (bdS f k).length = k := by unfold bdS; simp
def bdv (x : Int × Int) : Array Value := #[.int .i64 x.1, .int .i64 x.2]
/-- One task's, of a configuration that is right. -/
theorem bd_one (mn mx sw : Int) (ts : List Tk) (ls : List Ln) (hs : List Th) (A : Option Addr) (ca : Nat) (B : Option Addr) (cb : Nat) (D : Option Addr) (cd : Nat) (w : World)
    (hlt0 : ts.length ≤ 1048576) (hll : ls.length ≤ 1048576) (hlh : hs.length ≤ 1048576) (hwhy : Cf.why ⟨mn, mx, sw, ts, ls, hs⟩ = 0) (k : Nat) (hk : k < ts.length)
    (ht : Rd w A (ts.flatMap tkc)) (hl : Rd w B (ls.flatMap lnc)) (hh : Rd w D (hs.flatMap thc)) (hmx : I64 mx) (ht64 : ∀ p ∈ ts.map (·.prio) ++ hs.map (·.prio), I64 p) :
    Calls Try.prog 13 #[cfv mn mx sw A ts.length ca B ls.length cb D hs.length cd, .int .i64 (k : Int)] w (RetN (bdF mn sw ts ls hs k).1 (bdF mn sw ts ls hs k).2 w) := by
  have h := rbound_any mn mx sw ts ls hs A ca B cb D cd (k : Int) w hlt0 hll hlh ht hl hh hmx ht64
  have e : askY (Cf.why ⟨mn, mx, sw, ts, ls, hs⟩) ts (k : Int) = 0 := by
    unfold askY
    rw [if_neg (by simp [hwhy]), if_neg (by omega)]
  rw [if_pos e, if_pos e, Int.toNat_natCast] at h
  exact h
theorem bounds_any (mn mx sw : Int) (A : Option Addr) (na ca : Nat) (B : Option Addr) (nb cb : Nat) (D : Option Addr) (nd cd : Nat) (w : World) :
    Calls Try.prog 23 #[cfv mn mx sw A na ca B nb cb D nd cd] w fun e w' =>
      e = .returned (.func (.func 37) #[] #[.pointer (some ⟨w.heap.size, 0, none⟩)]) ∧
      w.alloc (.cells #[.int .i64 mn, .int .i64 mx, .int .i64 sw, .slice A na ca, .slice B nb cb, .slice D nd cd] 29) = w' := by
  unfold cfv
  go_enter Try.func23, Try.ntmps23
  go_wp2
  go_ret
  exact ⟨by simp, rfl⟩
set_option maxHeartbeats 4000000 in
set_option maxRecDepth 100000 in
/-- What bounds hands back. -/
theorem bd_iter (mn mx sw : Int) (ts : List Tk) (ls : List Ln) (hs : List Th) (A : Option Addr) (ca : Nat) (B : Option Addr) (cb : Nat) (D : Option Addr) (cd : Nat) (b1 n1 : Nat) (out : List Nat) (w0 w : World)
    (hlt0 : ts.length ≤ 1048576) (hll : ls.length ≤ 1048576) (hlh : hs.length ≤ 1048576) (hwhy : Cf.why ⟨mn, mx, sw, ts, ls, hs⟩ = 0)
    (h0 : Below w0.heap.size w0 w) (k1 : b1 < n1) (q1 : b1 ∉ out)
    (hb1 : w.heap[b1]? = some (.cells #[.int .i64 mn, .int .i64 mx, .int .i64 sw, .slice A ts.length ca, .slice B ls.length cb, .slice D hs.length cd] 29 (0, 0)))
    (ht : Rd w0 A (ts.flatMap tkc)) (hl : Rd w0 B (ls.flatMap lnc)) (hh : Rd w0 D (hs.flatMap thc)) (hmx : I64 mx) (ht64 : ∀ p ∈ ts.map (·.prio) ++ hs.map (·.prio), I64 p) :
    SeqStopsK Fence.wide 8 Try.prog 37 #[.pointer (some ⟨b1, 0, none⟩)] bdv (KeepsLow w0.heap.size n1 out)
      (fun xs => ∃ k, k ≤ ts.length ∧ xs = bdS (bdF mn sw ts ls hs) k ∧ ((∀ x ∈ xs, x.2 = 0) → k = ts.length))
      (fun pre => ∃ k, k ≤ ts.length ∧ pre = bdS (bdF mn sw ts ls hs) k) ts.length w := fun ll J Jx W hW hJ hJx hY hJ0 => by
  have H1 := Lib.hid (box_keep hb1 hW)
  have HW0 := Lib.hid (h0.trans (hW.mono h0.size))
  have Ht := Lib.hid ht; have Hl := Lib.hid hl; have Hh := Lib.hid hh
  have HJ := Lib.hid hJ; have HY := Lib.hid hY; have HJ0 := Lib.hid hJ0
  have s0 := h0.size
  have sW := hW.size
  have f1 := Lib.hid (fun k hk w ht hl hh => bd_one mn mx sw ts ls hs A ca B cb D cd w hlt0 hll hlh hwhy k hk ht hl hh hmx ht64)
  clear hb1 h0 hW hJ hJx hY hJ0 ht hl hh hmx ht64 hwhy
  generalize bdF mn sw ts ls hs = f at *
  unfold cfv at f1
  obtain ⟨hmx, hmy⟩ := box_rules H1.out
  refine callsIn_of_wp Try.func37 rfl trivial ?_ rfl
  simp only [Try.ntmps37, List.size_toArray, List.length_cons, List.length_nil, Nat.reduceAdd, Nat.reduceSub, Array.replicate_succ, Array.replicate_zero, List.push_toArray, List.append_toArray, List.nil_append, List.cons_append]
  gi_wp2
  gi_loopw [9] (fun i wr => ∃ k : Nat, k ≤ ts.length ∧ i = .int .i64 k ∧ J (bdS f k) wr ∧ KeepsLow w0.heap.size n1 out W wr ∧ W.heap.size ≤ wr.heap.size) (fun i _ => ts.length - (intOf i).toNat)
  case atStart => exact ⟨0, by omega, rfl, HJ0.out, KeepsLow.refl _, Nat.le_refl _⟩
  case round =>
    obtain ⟨k, hk, rfl, hj, hK, hs⟩ := hrel
    have Hj := Lib.hid hj; have HK := Lib.hid hK
    clear hj hK
    by_cases hlt : k < ts.length
    · have HD2 := Lib.hid (HK.out.box k1 q1 H1.out)
      obtain ⟨kx, ky⟩ := box_rules HD2.out
      have lx := box_lt HD2.out
      have sa : w0.heap.size ≤ wr.heap.size := by omega
      have HK2 := Lib.hid (fun w3 (hb3 : Below wr.heap.size wr w3) => HK.out.call hb3 sa)
      have HS2 := Lib.hid (bdS_succ f k)
      have hwr := Lib.hid (HW0.out.trans HK.out.below)
      have f2 := Lib.hid (f1.out k hlt wr (Ht.out.below hwr.out) (Hl.out.below hwr.out) (Hh.out.below hwr.out))
      unfold RetN at f2
      have HY2 := Lib.hid (fun w3 (hb3 : Below wr.heap.size wr w3) => HY.out (bdS f k) (f k) w3 (HJ.out _ _ _ none Hj.out (below_grown hb3) (fun _ h => by cases h)) (by rw [bdS_len]; exact hlt))
      generalize hfk : f k = x at *
      obtain ⟨b, y⟩ := x
      have HF := Lib.hid hfk
      clear hfk hwr f1
      dsimp only at f2
      gi_wp2_with (refine ⟨trivial, ?_⟩; gi_at_call 13; refine (callsIn_wide.2 f2.out).mono ?_; rintro e w3 ⟨rfl, hb3⟩; have HB3 := Lib.hid hb3; clear hb3; obtain ⟨fn, tmps, assign, body, hy, hR⟩ := HY2.out _ HB3.out; unfold bdv at hy; dsimp only at hy; have HR := Lib.hid hR; clear hR)
      refine HR.out.mono ?_
      rintro e W3 (⟨rfl, hJ4, hk4⟩ | ⟨rfl, hJx4⟩)
      · have HJ4 := Lib.hid hJ4; have HK4 := Lib.hid hk4
        clear hJ4 hk4
        by_cases hy0 : y = 0
        · subst hy0
          gi_wp2
          go_roundw
          case rel =>
            refine ⟨k + 1, by omega, by go_num, by rw [HS2.out]; exact HJ4.out, (HK2.out _ HB3.out).trans HK4.out, Nat.le_trans hs (Nat.le_trans HB3.out.size HK4.out.below.size)⟩
          case measure => simp [intOf]; omega
        · have hy1 : (y != 0) = true := by simpa using hy0
          gi_wp2
          refine bodyPost_ret (results_none rfl _ _ _) rfl ?_
          exact ⟨⟨_, rfl⟩, .inl ⟨_, ⟨k + 1, by omega, HS2.out.symm, fun h => absurd (h (b, y) (by simp)) hy0⟩, HJ4.out⟩⟩
      · have HJ4 := Lib.hid hJx4
        clear hJx4
        gi_wp2
        refine bodyPost_ret (results_none rfl _ _ _) rfl ?_
        exact ⟨⟨_, rfl⟩, .inr ⟨_, ⟨k + 1, by omega, HS2.out.symm⟩, HJ4.out⟩⟩
    · obtain rfl : k = ts.length := by omega
      gi_wp2
      go_end0
      exact ⟨⟨_, rfl⟩, .inl ⟨_, ⟨_, Nat.le_refl _, rfl, fun _ => rfl⟩, Hj.out⟩⟩
end Go.Proofs.Ytlnjeelbfokdpaa

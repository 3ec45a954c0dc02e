/- Packages chart and vergeref39: the walks of At and Share. Conditions: lists that read. -/
import Derived.Test.YtlmhgfgdkenpfaaDoorChB
import Derived.Test.YtlmhgfgdkenpfaaDoorRange
import Derived.Test.YtlmhgfgdkenpfaaDoorSets
namespace Go.Proofs.YtlmhgfgdkenpfaaDoor
open Go.RowKit Go.Shelf
attribute [local go_sem] Oper.semAt_some

theorem name_post {P : Program} {fn : Func} {R : Ending → World → Prop} {e : Exit} {a : Act} {w : World} (h : ∀ V, V = w → bodyPost P fn R e a V) : bodyPost P fn R e a w := h w rfl
def atT (t : Int) (x : Rn) : Bool := decide (x.ff ≤ t ∧ t < x.tt)
theorem at1_any (t : Int) (b : Nat) (x : Rn) (w : World) (hb : w.heap[b]? = some (.cells #[.int .i64 t] 2 (0, 0))) :
    Calls Tryd.prog 23 #[rnv x, .pointer (some ⟨b, 0, none⟩)] w fun e w' => e = .returned (.bool (atT t x)) ∧ Below w.heap.size w w' := by
  obtain ⟨x0, x1, x2, x3⟩ := x
  unfold rnv
  dsimp only
  obtain ⟨bx, by'⟩ := box_rules hb
  have lb := box_lt hb
  clear hb
  by_cases h0 : x2 ≤ t
  · by_cases h1 : t < x3
    · go_enter Tryd.func23, Tryd.ntmps23
      go_wp2
      go_ret
      exact ⟨ret_bool (by (unfold atT; simp; omega)), (Below.refl _ _).alloc (Nat.le_refl _) _⟩
    · go_enter Tryd.func23, Tryd.ntmps23
      go_wp2
      go_ret
      exact ⟨ret_bool (by (unfold atT; simp; omega)), (Below.refl _ _).alloc (Nat.le_refl _) _⟩
  · go_enter Tryd.func23, Tryd.ntmps23
    go_wp2
    go_ret
    exact ⟨ret_bool (by (unfold atT; simp; omega)), (Below.refl _ _).alloc (Nat.le_refl _) _⟩
set_option maxHeartbeats 4000000 in
theorem ixF_any (t : Int) (b : Nat) (l : List Rn) (A : Option Addr) (c : Nat) (w : World) (hl : l.length ≤ 1099511627000) (hr : Rd w A (l.flatMap rnc)) (hb : w.heap[b]? = some (.cells #[.int .i64 t] 2 (0, 0))) :
    Calls Tryd.prog 22 #[.slice A l.length c, .func (.func 23) #[] #[.pointer (some ⟨b, 0, none⟩)]] w fun e w' =>
      (∃ z : Int, e = .returned (.int .i64 z) ∧ ((∃ i : Nat, i < l.length ∧ z = i ∧ atF t l = some (l.getD i rn0)) ∨ (z = -1 ∧ atF t l = none))) ∧ Below w.heap.size w w' := by
  have HR := Lib.hid hr
  have HB := Lib.hid hb
  have f1 := Lib.hid (fun x W hW => at1_any t b x W hW)
  have HG0 : Hid (atF t (l.drop 0) = atF t l) := Lib.hid rfl
  clear hr hb
  generalize atF t l = R at *
  go_enter Tryd.func22, Tryd.ntmps22
  go_wp2
  go_loopw [8] (fun i wr => ∃ k : Nat, k ≤ l.length ∧ i = .int .i64 k ∧ Hid (atF t (l.drop k) = R) ∧ Hid (Below w.heap.size w wr)) (fun i _ => l.length - (intOf i).toNat)
  case atStart => exact ⟨0, by omega, rfl, HG0, Lib.hid (Below.refl _ _)⟩
  case round =>
    obtain ⟨k, hk, rfl, HG, hSr⟩ := hrel
    by_cases hlt : k < l.length
    · obtain ⟨a, x, rfl, hx, g0, g1, g2, g3⟩ := (HR.out.below hSr.out).rnAt hlt
      have HG2 := Lib.hid (show (if x.ff ≤ t ∧ t < x.tt then some x else atF t (l.drop (k + 1))) = R by rw [← HG.out, drop_at (d := rn0) hlt, hx]; rfl)
      have f2 := Lib.hid (f1.out x wr (box_keep HB.out hSr.out))
      have HX := Lib.hid hx
      clear hx HG HG0
      cases ht : atT t x with
      | true =>
        rw [ht] at f2
        have HN := Lib.hid (show R = some (l.getD k rn0) by rw [← HG2.out, if_pos (by simpa [atT] using ht), HX.out])
        clear ht
        obtain ⟨x0, x1, x2, x3⟩ := x
        dsimp only [rnv] at *
        go_wp2_with (refine f2.out.mono ?_; rintro e w2 ⟨rfl, hb⟩; have hS2 := Lib.hid (hSr.out.trans (hb.mono hSr.out.size)); clear hb)
        go_ret
        exact ⟨⟨k, rfl, .inl ⟨k, hlt, rfl, HN.out⟩⟩, hS2.out⟩
      | false =>
        rw [ht] at f2
        have HN := Lib.hid (show atF t (l.drop (k + 1)) = R by rw [← HG2.out, if_neg (by simpa [atT] using ht)])
        clear ht
        obtain ⟨x0, x1, x2, x3⟩ := x
        dsimp only [rnv] at *
        go_wp2_with (refine f2.out.mono ?_; rintro e w2 ⟨rfl, hb⟩; have hS2 := Lib.hid (hSr.out.trans (hb.mono hSr.out.size)); clear hb)
        refine ⟨⟨k + 1, by omega, by go_num, HN, hS2⟩, ?_⟩
        simp [intOf]; omega
    · obtain rfl : k = l.length := by omega
      have HN := Lib.hid (show R = none by rw [← HG.out, List.drop_length]; rfl)
      go_wp2
      go_ret
      exact ⟨⟨-1, rfl, .inr ⟨rfl, HN.out⟩⟩, hSr.out⟩
/-- What At hands back. -/
def RetAt (t : Int) (l : List Rn) (w : World) (e : Ending) (w' : World) : Prop := e = .returned (.tuple #[rnv ((atF t l).getD rn0), .bool (atF t l).isSome]) ∧ Below w.heap.size w w'
set_option maxHeartbeats 4000000 in
theorem at_any (t : Int) (l : List Rn) (A : Option Addr) (c : Nat) (w : World) (hl : l.length ≤ 1099511627000) (hr : Rd w A (l.flatMap rnc)) :
    Calls Tryd.prog 12 #[.slice A l.length c, .int .i64 t] w (RetAt t l w) := by
  have HR := Lib.hid hr
  have f1 := Lib.hid (fun b W hR hW => ixF_any t b l A c W hl hR hW)
  clear hr
  unfold RetAt
  generalize atF t l = R at *
  go_enter Tryd.func12, Tryd.ntmps12
  go_upto_region 1 with fail
  refine name_world fun V hV => ?_
  have HC : Hid (V.heap[w.heap.size]? = some (.cells #[.int .i64 t] 2 (0, 0))) := Lib.hid (by rw [hV]; exact box_alloc (heap_alloc_new _ _) _)
  have HE : Hid (V.heap[w.heap.size + 1]? = some (.cells #[.int .u8 0, .int .i64 0, .int .i64 0, .int .i64 0] 33 (0, 0))) := Lib.hid (by rw [hV]; exact heap_new_at _ (by simp))
  have HB : Hid (Below w.heap.size w V) := Lib.hid (by rw [hV]; exact ((Below.refl _ _).alloc (Nat.le_refl _) _).alloc (by simp) _)
  clear hV
  have f2 := Lib.hid (f1.out _ V (HR.out.below HB.out) HC.out)
  clear f1
  go_upto_region 2 with (refine f2.out.mono ?_; rintro e w2 ⟨⟨z, rfl, hz⟩, hb⟩)
  have HE2 := Lib.hid (box_keep HE.out hb)
  have HB2 := Lib.hid (HB.out.trans (hb.mono HB.out.size))
  clear hb f2 HC HE
  obtain ⟨ex, ey⟩ := box_rules HE2.out
  have le := box_lt HE2.out
  generalize hse : w.heap.size + 1 = e at *
  have HS : Hid (∀ v0 v1 v2 v3, Below w.heap.size w ((((w2.setCell ⟨e, 0, none⟩ v0).setCell ⟨e, 1, none⟩ v1).setCell ⟨e, 2, none⟩ v2).setCell ⟨e, 3, none⟩ v3)) := Lib.hid (fun v0 v1 v2 v3 => (((HB2.out.setCell (p := ⟨e, 0, none⟩) (by show _ ≤ e; omega) _).setCell (p := ⟨e, 1, none⟩) (by show _ ≤ e; omega) _).setCell (p := ⟨e, 2, none⟩) (by show _ ≤ e; omega) _).setCell (p := ⟨e, 3, none⟩) (by show _ ≤ e; omega) _)
  rcases hz with ⟨i, hi, rfl, hR⟩ | ⟨rfl, hR⟩
  · obtain ⟨a, x, rfl, hx, g0, g1, g2, g3⟩ := (HR.out.below HB2.out).rnAt hi
    have HN := Lib.hid (show R = some x by rw [hR, hx])
    clear hR hx
    obtain ⟨x0, x1, x2, x3⟩ := x
    dsimp only at *
    go_wp2
    refine name_post fun V4 hV4 => ?_
    have HB4 : Hid (Below w.heap.size w V4) := Lib.hid (by rw [hV4]; exact HS.out _ _ _ _)
    have hE4 : V4.heap[e]? = some (.cells #[.int .u8 x0, .int .i64 x1, .int .i64 x2, .int .i64 x3] 33 (0, 0)) := by rw [hV4]; exact box_set (i := 3) (box_set (i := 2) (box_set (i := 1) (box_set (i := 0) HE2.out _) _) _) _
    obtain ⟨vx, vy⟩ := box_rules hE4
    clear hV4 hE4 ex ey
    refine bodyPost_ret (v := .tuple #[.agg #[.int .u8 x0, .int .i64 x1, .int .i64 x2, .int .i64 x3], .bool true]) (by simp [results, Tryd.f12, go_sem, vx]) rfl ?_
    exact ⟨by rw [HN.out]; rfl, HB4.out⟩
  · have HN := Lib.hid hR
    clear hR
    go_wp2
    refine name_post fun V4 hV4 => ?_
    have HB4 : Hid (Below w.heap.size w V4) := Lib.hid (by rw [hV4]; exact HS.out _ _ _ _)
    have hE4 : V4.heap[e]? = some (.cells #[.int .u8 0, .int .i64 0, .int .i64 0, .int .i64 0] 33 (0, 0)) := by rw [hV4]; exact box_set (i := 3) (box_set (i := 2) (box_set (i := 1) (box_set (i := 0) HE2.out _) _) _) _
    obtain ⟨vx, vy⟩ := box_rules hE4
    clear hV4 hE4 ex ey
    refine bodyPost_ret (v := .tuple #[.agg #[.int .u8 0, .int .i64 0, .int .i64 0, .int .i64 0], .bool false]) (by simp [results, Tryd.f12, go_sem, vx]) rfl ?_
    exact ⟨by rw [HN.out]; rfl, HB4.out⟩
end Go.Proofs.YtlmhgfgdkenpfaaDoor

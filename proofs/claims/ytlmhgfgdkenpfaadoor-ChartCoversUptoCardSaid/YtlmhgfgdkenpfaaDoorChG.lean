/- Packages chart and vergeref39: the walks of Share, and of At's second text. Conditions: lists that read. -/
import Derived.Test.YtlmhgfgdkenpfaaDoorChF
namespace Go.Proofs.YtlmhgfgdkenpfaaDoor
open Go.RowKit Go.Shelf
attribute [local go_sem] Oper.semAt_some

def shG (k o : Int) : Int → List Rn → Int
  | p, [] => p
  | p, x :: l => shG k o (if x.kind = k ∧ x.who = o ∧ x.ff < x.tt then wrap64 (p + wrap64 (x.tt - x.ff)) else p) l
set_option maxHeartbeats 4000000 in
theorem share_any (ki o : Int) (l : List Rn) (A : Option Addr) (c : Nat) (w : World) (hl : l.length ≤ 1099511627000) (hr : Rd w A (l.flatMap rnc)) :
    Calls Tryd.prog 16 #[.slice A l.length c, .int .u8 ki, .int .i64 o] w fun e w' => e = .returned (.int .i64 (shG ki o 0 l)) ∧ Below w.heap.size w w' := by
  have HR := Lib.hid hr
  have HG0 : Hid (shG ki o 0 (l.drop 0) = shG ki o 0 l) := Lib.hid rfl
  clear hr
  generalize shG ki o 0 l = R at *
  go_enter Tryd.func16, Tryd.ntmps16
  go_wp2
  go_loopw [7, 12] (fun s i wr => ∃ (k : Nat) (p : Int), k ≤ l.length ∧ i = .int .i64 k ∧ s = .int .i64 p ∧ Hid (shG ki o p (l.drop k) = R) ∧ Hid (Below w.heap.size w wr)) (fun _ i _ => l.length - (intOf i).toNat)
  case atStart => exact ⟨0, 0, by omega, rfl, rfl, HG0, Lib.hid (Below.refl _ _)⟩
  case round =>
    obtain ⟨k, p, hk, rfl, rfl, HG, hSr⟩ := hrel
    by_cases hlt : k < l.length
    · obtain ⟨a, x, rfl, hx, g0, g1, g2, g3⟩ := (HR.out.below hSr.out).rnAt hlt
      have HG2 := Lib.hid (show shG ki o (if x.kind = ki ∧ x.who = o ∧ x.ff < x.tt then wrap64 (p + wrap64 (x.tt - x.ff)) else p) (l.drop (k + 1)) = R by rw [← HG.out, drop_at (d := rn0) hlt, hx]; rfl)
      clear hx HG HG0
      obtain ⟨x0, x1, x2, x3⟩ := x
      dsimp only at *
      by_cases h0 : x0 = ki
      · subst h0
        have t0 : (x0 == x0) = true := by simp
        by_cases h1 : x1 = o
        · subst h1
          have t1 : (x1 == x1) = true := by simp
          by_cases h2 : x2 < x3
          · have HN := Lib.hid (show shG x0 x1 (wrap64 (p + wrap64 (x3 - x2))) (l.drop (k + 1)) = R by rw [← HG2.out, if_pos ⟨rfl, rfl, h2⟩])
            go_wp2
            refine ⟨⟨k + 1, _, by omega, by go_num, rfl, HN, hSr.out.alloc hSr.out.size _⟩, ?_⟩
            simp [intOf]; omega
          · have HN := Lib.hid (show shG x0 x1 p (l.drop (k + 1)) = R by rw [← HG2.out, if_neg (fun h => h2 h.2.2)])
            go_wp2
            refine ⟨⟨k + 1, _, by omega, by go_num, rfl, HN, hSr.out.alloc hSr.out.size _⟩, ?_⟩
            simp [intOf]; omega
        · have t1 : (x1 == o) = false := by simpa using h1
          have HN := Lib.hid (show shG x0 o p (l.drop (k + 1)) = R by rw [← HG2.out, if_neg (fun h => h1 h.2.1)])
          go_wp2
          refine ⟨⟨k + 1, _, by omega, by go_num, rfl, HN, hSr.out.alloc hSr.out.size _⟩, ?_⟩
          simp [intOf]; omega
      · have t0 : (x0 == ki) = false := by simpa using h0
        have HN := Lib.hid (show shG ki o p (l.drop (k + 1)) = R by rw [← HG2.out, if_neg (fun h => h0 h.1)])
        go_wp2
        refine ⟨⟨k + 1, _, by omega, by go_num, rfl, HN, hSr.out.alloc hSr.out.size _⟩, ?_⟩
        simp [intOf]; omega
    · obtain rfl : k = l.length := by omega
      have HN := Lib.hid (show p = R by rw [← HG.out, List.drop_length]; rfl)
      go_wp2
      go_ret
      exact ⟨by rw [HN.out]; rfl, hSr.out⟩
set_option maxHeartbeats 4000000 in
theorem share39_any (ki o : Int) (l : List Rn) (A : Option Addr) (c : Nat) (w : World) (hl : l.length ≤ 1099511627000) (hr : Rd w A (l.flatMap rnc)) :
    Calls Tryd.prog 17 #[.slice A l.length c, .int .u8 ki, .int .i64 o] w fun e w' => e = .returned (.int .i64 (shG ki o 0 l)) ∧ Below w.heap.size w w' := by
  have HR := Lib.hid hr
  have HG0 : Hid (shG ki o 0 (l.drop 0) = shG ki o 0 l) := Lib.hid rfl
  clear hr
  generalize shG ki o 0 l = R at *
  go_enter Tryd.func17, Tryd.ntmps17
  go_wp2
  go_loopw [7, 12] (fun s i wr => ∃ (k : Nat) (p : Int), k ≤ l.length ∧ i = .int .i64 k ∧ s = .int .i64 p ∧ Hid (shG ki o p (l.drop k) = R) ∧ Hid (Below w.heap.size w wr)) (fun _ i _ => l.length - (intOf i).toNat)
  case atStart => exact ⟨0, 0, by omega, rfl, rfl, HG0, Lib.hid (Below.refl _ _)⟩
  case round =>
    obtain ⟨k, p, hk, rfl, rfl, HG, hSr⟩ := hrel
    by_cases hlt : k < l.length
    · obtain ⟨a, x, rfl, hx, g0, g1, g2, g3⟩ := (HR.out.below hSr.out).rnAt hlt
      have HG2 := Lib.hid (show shG ki o (if x.kind = ki ∧ x.who = o ∧ x.ff < x.tt then wrap64 (p + wrap64 (x.tt - x.ff)) else p) (l.drop (k + 1)) = R by rw [← HG.out, drop_at (d := rn0) hlt, hx]; rfl)
      clear hx HG HG0
      obtain ⟨x0, x1, x2, x3⟩ := x
      dsimp only at *
      by_cases h0 : x0 = ki
      · subst h0
        have t0 : (x0 == x0) = true := by simp
        by_cases h1 : x1 = o
        · subst h1
          have t1 : (x1 == x1) = true := by simp
          by_cases h2 : x2 < x3
          · have HN := Lib.hid (show shG x0 x1 (wrap64 (p + wrap64 (x3 - x2))) (l.drop (k + 1)) = R by rw [← HG2.out, if_pos ⟨rfl, rfl, h2⟩])
            go_wp2
            refine ⟨⟨k + 1, _, by omega, by go_num, rfl, HN, hSr.out.alloc hSr.out.size _⟩, ?_⟩
            simp [intOf]; omega
          · have HN := Lib.hid (show shG x0 x1 p (l.drop (k + 1)) = R by rw [← HG2.out, if_neg (fun h => h2 h.2.2)])
            go_wp2
            refine ⟨⟨k + 1, _, by omega, by go_num, rfl, HN, hSr.out.alloc hSr.out.size _⟩, ?_⟩
            simp [intOf]; omega
        · have t1 : (x1 == o) = false := by simpa using h1
          have HN := Lib.hid (show shG x0 o p (l.drop (k + 1)) = R by rw [← HG2.out, if_neg (fun h => h1 h.2.1)])
          go_wp2
          refine ⟨⟨k + 1, _, by omega, by go_num, rfl, HN, hSr.out.alloc hSr.out.size _⟩, ?_⟩
          simp [intOf]; omega
      · have t0 : (x0 == ki) = false := by simpa using h0
        have HN := Lib.hid (show shG ki o p (l.drop (k + 1)) = R by rw [← HG2.out, if_neg (fun h => h0 h.1)])
        go_wp2
        refine ⟨⟨k + 1, _, by omega, by go_num, rfl, HN, hSr.out.alloc hSr.out.size _⟩, ?_⟩
        simp [intOf]; omega
    · obtain rfl : k = l.length := by omega
      have HN := Lib.hid (show p = R by rw [← HG.out, List.drop_length]; rfl)
      go_wp2
      go_ret
      exact ⟨by rw [HN.out]; rfl, hSr.out⟩
set_option maxHeartbeats 4000000 in
theorem at39_any (t : Int) (l : List Rn) (A : Option Addr) (c : Nat) (w : World) (hl : l.length ≤ 1099511627000) (hr : Rd w A (l.flatMap rnc)) :
    Calls Tryd.prog 13 #[.slice A l.length c, .int .i64 t] w (RetAt t l w) := by
  have HR := Lib.hid hr
  have HG0 : Hid (atF t (l.drop 0) = atF t l) := Lib.hid rfl
  clear hr
  unfold RetAt
  generalize atF t l = R at *
  go_enter Tryd.func13, Tryd.ntmps13
  go_upto_region 1 with fail
  refine name_world fun V hV => ?_
  have HE : Hid (V.heap[w.heap.size]? = some (.cells #[.int .u8 0, .int .i64 0, .int .i64 0, .int .i64 0] 33 (0, 0))) := Lib.hid (by rw [hV]; exact heap_alloc_new _ _)
  have HB : Hid (Below w.heap.size w V) := Lib.hid (by rw [hV]; exact (Below.refl _ _).alloc (Nat.le_refl _) _)
  clear hV
  generalize hse : w.heap.size = e at *
  have hee : e ≤ w.heap.size := by omega
  go_wp2
  go_loopw [10] (fun i wr => ∃ k : Nat, k ≤ l.length ∧ i = .int .i64 k ∧ Hid (atF t (l.drop k) = R) ∧ Hid (Below e w wr) ∧ Hid (wr.heap[e]? = some (.cells #[.int .u8 0, .int .i64 0, .int .i64 0, .int .i64 0] 33 (0, 0)))) (fun i _ => l.length - (intOf i).toNat)
  case atStart => exact ⟨0, by omega, rfl, HG0, HB, HE⟩
  case round =>
    obtain ⟨k, hk, rfl, HG, hSr, HEr⟩ := hrel
    have ler := box_lt HEr.out
    obtain ⟨ex, ey⟩ := box_rules HEr.out
    by_cases hlt : k < l.length
    · obtain ⟨a, x, rfl, hx, g0, g1, g2, g3⟩ := (HR.out.below (by have := hSr.out; rwa [← hse] at this)).rnAt hlt
      have HG2 := Lib.hid (show (if x.ff ≤ t ∧ t < x.tt then some x else atF t (l.drop (k + 1))) = R by rw [← HG.out, drop_at (d := rn0) hlt, hx]; rfl)
      clear hx HG HG0 HE HB
      obtain ⟨x0, x1, x2, x3⟩ := x
      dsimp only at *
      by_cases h0 : x2 ≤ t
      · by_cases h1 : t < x3
        · have HN := Lib.hid (show R = some ⟨x0, x1, x2, x3⟩ by rw [← HG2.out, if_pos ⟨h0, h1⟩])
          go_wp2
          refine name_post fun V4 hV4 => ?_
          have HS := (fun (v0 v1 v2 v3 : Value) => (((hSr.out.setCell (p := ⟨e, 0, none⟩) (Nat.le_refl _) v0).setCell (p := ⟨e, 1, none⟩) (Nat.le_refl _) v1).setCell (p := ⟨e, 2, none⟩) (Nat.le_refl _) v2).setCell (p := ⟨e, 3, none⟩) (Nat.le_refl _) v3)
          have HB4 : Hid (Below e w V4) := Lib.hid (by rw [hV4]; exact ((HS _ _ _ _).alloc (by simp only [World.size_setCell]; omega) _))
          have hE4 : V4.heap[e]? = some (.cells #[.int .u8 x0, .int .i64 x1, .int .i64 x2, .int .i64 x3] 33 (0, 0)) := by rw [hV4]; exact (box_alloc (box_set (i := 3) (box_set (i := 2) (box_set (i := 1) (box_set (i := 0) HEr.out _) _) _) _) _)
          obtain ⟨vx, vy⟩ := box_rules hE4
          clear hV4 hE4 ex ey HS
          refine bodyPost_ret (v := .tuple #[.agg #[.int .u8 x0, .int .i64 x1, .int .i64 x2, .int .i64 x3], .bool true]) (by simp [results, Tryd.f13, go_sem, vx]) rfl ?_
          exact ⟨by rw [HN.out]; rfl, by have := HB4.out; rwa [← hse] at this⟩
        · have HN := Lib.hid (show atF t (l.drop (k + 1)) = R by rw [← HG2.out, if_neg (by omega)])
          have HE3 := Lib.hid (box_alloc HEr.out (.cells #[.int .u8 x0, .int .i64 x1, .int .i64 x2, .int .i64 x3] 33))
          go_wp2
          refine ⟨⟨k + 1, by omega, by go_num, HN, hSr.out.alloc (by omega) _, HE3⟩, ?_⟩
          simp [intOf]; omega
      · have HN := Lib.hid (show atF t (l.drop (k + 1)) = R by rw [← HG2.out, if_neg (by omega)])
        have HE3 := Lib.hid (box_alloc HEr.out (.cells #[.int .u8 x0, .int .i64 x1, .int .i64 x2, .int .i64 x3] 33))
        go_wp2
        refine ⟨⟨k + 1, by omega, by go_num, HN, hSr.out.alloc (by omega) _, HE3⟩, ?_⟩
        simp [intOf]; omega
    · obtain rfl : k = l.length := by omega
      have HN := Lib.hid (show R = none by rw [← HG.out, List.drop_length]; rfl)
      go_wp2
      refine name_post fun V4 hV4 => ?_
      have HS := (fun (v0 v1 v2 v3 : Value) => (((hSr.out.setCell (p := ⟨e, 0, none⟩) (Nat.le_refl _) v0).setCell (p := ⟨e, 1, none⟩) (Nat.le_refl _) v1).setCell (p := ⟨e, 2, none⟩) (Nat.le_refl _) v2).setCell (p := ⟨e, 3, none⟩) (Nat.le_refl _) v3)
      have HB4 : Hid (Below e w V4) := Lib.hid (by rw [hV4]; exact (HS _ _ _ _))
      have hE4 : V4.heap[e]? = some (.cells #[.int .u8 0, .int .i64 0, .int .i64 0, .int .i64 0] 33 (0, 0)) := by rw [hV4]; exact (box_set (i := 3) (box_set (i := 2) (box_set (i := 1) (box_set (i := 0) HEr.out _) _) _) _)
      obtain ⟨vx, vy⟩ := box_rules hE4
      clear hV4 hE4 ex ey HS
      refine bodyPost_ret (v := .tuple #[.agg #[.int .u8 0, .int .i64 0, .int .i64 0, .int .i64 0], .bool false]) (by simp [results, Tryd.f13, go_sem, vx]) rfl ?_
      exact ⟨by rw [HN.out]; rfl, by have := HB4.out; rwa [← hse] at this⟩
end Go.Proofs.YtlmhgfgdkenpfaaDoor

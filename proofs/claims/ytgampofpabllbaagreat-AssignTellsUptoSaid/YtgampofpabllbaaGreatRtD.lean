/- Package demand: the walk of All. Conditions: lists that read. -/
import Derived.Test.YtgampofpabllbaaGreatRtC
namespace Go.Proofs.YtgampofpabllbaaGreat
open Go.RowKit Go.Shelf
attribute [local go_sem] Oper.semAt_some

/-- How many of a load may arrive, and its cost. -/
structure Arv where
  n : Int
  c : Int
  ok : (0 ≤ n ∧ n ≤ 4503599627370496) ∧ 0 ≤ c ∧ c ≤ 1099511627776
open Classical in
/-- All of them, among the first k. -/
noncomputable def arE (l : List Ld) (t : Int) : Nat → List Arv
  | 0 => []
  | k + 1 => arE l t k ++ if h : (0 ≤ mostN (l.getD k ld0) t ∧ mostN (l.getD k ld0) t ≤ 4503599627370496) ∧ 0 ≤ (l.getD k ld0).cost ∧ (l.getD k ld0).cost ≤ 1099511627776 then [⟨mostN (l.getD k ld0) t, (l.getD k ld0).cost, h⟩] else []
theorem arE_succ {l : List Ld} {t : Int} {k : Nat} {x : Ld} (hx : l.getD k ld0 = x) (h : (0 ≤ mostN x t ∧ mostN x t ≤ 4503599627370496) ∧ 0 ≤ x.cost ∧ x.cost ≤ 1099511627776) : arE l t (k + 1) = arE l t k ++ [⟨mostN x t, x.cost, h⟩] := by
  subst hx
  show arE l t k ++ _ = _
  rw [dif_pos h]
theorem arE_pre (l : List Ld) (t : Int) (k : Nat) : ∀ n, k ≤ n → arE l t k <+: arE l t n
  | 0, h => by obtain rfl : k = 0 := by omega
               exact List.prefix_refl _
  | n + 1, h => by
    by_cases e : k = n + 1
    · subst e; exact List.prefix_refl _
    · exact List.IsPrefix.trans (arE_pre l t k n (by omega)) (List.prefix_append _ _)
theorem arE_len (l : List Ld) (t : Int) : ∀ k, (arE l t k).length ≤ k
  | 0 => Nat.le_refl _
  | k + 1 => by
    have ih := arE_len l t k
    show (arE l t k ++ _).length ≤ _
    rw [List.length_append]
    split
    · show (arE l t k).length + 1 ≤ k + 1
      omega
    · show (arE l t k).length + 0 ≤ k + 1
      omega
def sumA (p : List Arv) : Int := p.foldl (fun s x => s + x.n * x.c) 0
theorem sumA_snoc (p : List Arv) (x : Arv) : sumA (p ++ [x]) = sumA p + x.n * x.c := by unfold sumA; rw [List.foldl_append]; rfl
theorem sumA_arE {l : List Ld} {t : Int} (h : ∀ x ∈ l, ldOk x = true) (ht : 0 ≤ t ∧ t ≤ 4503599627370496) : ∀ k, k ≤ l.length → sumA (arE l t k) = totK l t k
  | 0, _ => rfl
  | k + 1, hk => by
    have hx := h _ (ld_mem (by omega : k < l.length))
    rw [arE_succ rfl ⟨most_in hx ht, (ld_in hx).2⟩, sumA_snoc, sumA_arE h ht k (by omega)]
    rfl
theorem sumA_pre {l : List Ld} {t : Int} (h : ∀ x ∈ l, ldOk x = true) (ht : 0 ≤ t ∧ t ≤ 4503599627370496) {p : List Arv} : ∀ n, n ≤ l.length → p <+: arE l t n → ∃ k, k ≤ n ∧ sumA p = totK l t k
  | 0, _, hp => by
    have : p = [] := List.prefix_nil.1 hp
    subst this
    exact ⟨0, Nat.le_refl _, rfl⟩
  | n + 1, hn, hp => by
    have hx := h _ (ld_mem (by omega : n < l.length))
    rw [arE_succ rfl ⟨most_in hx ht, (ld_in hx).2⟩] at hp
    rcases List.prefix_concat_iff.1 hp with rfl | hp
    · exact ⟨n + 1, Nat.le_refl _, by rw [sumA_snoc, sumA_arE h ht n (by omega)]; rfl⟩
    · obtain ⟨k, hk, e⟩ := sumA_pre h ht n (by omega) hp
      exact ⟨k, by omega, e⟩
def arv (x : Arv) : Array Value := #[.int .i64 x.n, .int .i64 x.c]

theorem arrv_any (A : Option Addr) (n c : Nat) (t : Int) (w : World) :
    Calls Tryz.prog 156 #[.slice A n c, .int .i64 t] w fun e w' =>
      e = .returned (.func (.func 158) #[] #[.pointer (some ⟨w.heap.size, 0, none⟩), .pointer (some ⟨w.heap.size + 1, 0, none⟩)]) ∧
      (w.alloc (.cells #[.slice A n c] 76)).alloc (.cells #[.int .i64 t] 2) = w' := by
  go_enter Tryz.func156, Tryz.ntmps156
  go_wp2
  go_ret
  exact ⟨by simp, rfl⟩
set_option maxHeartbeats 4000000 in
set_option maxRecDepth 100000 in
/-- What arrivals hands back. -/
theorem arv_iter (l : List Ld) (t : Int) (hok : ∀ x ∈ l, ldOk x = true) (ht : 0 ≤ t ∧ t ≤ 4503599627370496) (A : Option Addr) (c b1 b2 n1 : Nat) (out : List Nat) (w0 w : World) (hl : l.length ≤ 1048576)
    (h0 : Below w0.heap.size w0 w) (k2 : b2 < n1) (q2 : b2 ∉ out)
    (hb1 : w.heap[b1]? = some (.cells #[.slice A l.length c] 76 (0, 0)))
    (hb2 : w.heap[b2]? = some (.cells #[.int .i64 t] 2 (0, 0))) (hr : Rd w0 A (l.flatMap ldc)) :
    SeqStopsK Fence.wide 8 Tryz.prog 158 #[.pointer (some ⟨b1, 0, none⟩), .pointer (some ⟨b2, 0, none⟩)] arv (KeepsLow w0.heap.size n1 out) (fun xs => xs = arE l t l.length)
      (fun pre => pre <+: arE l t l.length) l.length w := fun ll J Jx W hW hJ hJx hY hJ0 => by
  have H1 := Lib.hid (box_keep hb1 hW)
  have H2 := Lib.hid (box_keep hb2 hW)
  have HW0 := Lib.hid (h0.trans (hW.mono h0.size))
  have Hr := Lib.hid hr; have HJ := Lib.hid hJ; have HY := Lib.hid hY; have HJ0 := Lib.hid hJ0; have Hok := Lib.hid hok
  have s0 := h0.size
  have sW := hW.size
  have Ht := Lib.hid ht
  clear hb1 hb2 h0 hW hr hJ hJx hY hJ0 hok ht
  obtain ⟨hmx, hmy⟩ := box_rules H1.out
  refine callsIn_of_wp Tryz.func158 rfl trivial ?_ rfl
  simp only [Tryz.ntmps158, List.size_toArray, List.length_cons, List.length_nil, Nat.reduceAdd, Nat.reduceSub, Array.replicate_succ, Array.replicate_zero, List.push_toArray, List.append_toArray, List.nil_append, List.cons_append]
  gi_wp2
  gi_loopw [10] (fun i wr => ∃ k : Nat, k ≤ l.length ∧ i = .int .i64 k ∧ J (arE l t k) wr ∧ KeepsLow w0.heap.size n1 out W wr ∧ W.heap.size ≤ wr.heap.size) (fun i _ => l.length - (intOf i).toNat)
  case atStart => exact ⟨0, by omega, rfl, HJ0.out, KeepsLow.refl _, Nat.le_refl _⟩
  case round =>
    obtain ⟨k, hk, rfl, hj, hK, hs⟩ := hrel
    have Hj := Lib.hid hj; have HK := Lib.hid hK
    clear hj hK
    by_cases hlt : k < l.length
    · obtain ⟨a, x, rfl, hx2, g0, g1, g2, g3⟩ := (Hr.out.below (HW0.out.trans HK.out.below)).ldAt hlt
      have hx := Hok.out _ (ld_mem hlt)
      rw [hx2] at hx
      have HS2 := Lib.hid (arE_succ (t := t) hx2 ⟨most_in hx Ht.out, (ld_in hx).2⟩)
      have f2 := Lib.hid (fun w => most_any x t (ld_in hx).1 Ht.out w)
      have HL := Lib.hid (Nat.lt_of_le_of_lt (arE_len l t k) hlt)
      have HP := Lib.hid (arE_pre l t (k + 1) l.length hlt)
      have HD2 := Lib.hid (HK.out.box k2 q2 H2.out)
      obtain ⟨kx, ky⟩ := box_rules HD2.out
      have lx := box_lt HD2.out
      have sa : w0.heap.size ≤ wr.heap.size := by omega
      have HK2 := Lib.hid (fun w3 (hb3 : Below wr.heap.size wr w3) => HK.out.call hb3 sa)
      have HY2 := Lib.hid (fun w3 (hb3 : Below wr.heap.size wr w3) => HY.out (arE l t k) ⟨mostN x t, x.cost, most_in hx Ht.out, (ld_in hx).2⟩ w3 (HJ.out _ _ _ none Hj.out (below_grown hb3) (fun _ h => by cases h)) HL.out)
      clear hx2
      obtain ⟨x0, x1, x2, x3⟩ := x
      unfold cvv at f2
      dsimp only at f2 g0 g1 g2 g3 HS2
      have HBa : Hid (Below wr.heap.size wr (wr.alloc (.cells #[.int .i64 x0, .int .i64 x1, .int .i64 x2, .int .i64 x3] 109))) := Lib.hid ((Below.refl _ _).alloc (Nat.le_refl _) _)
      gi_wp2_with (refine ⟨trivial, ?_⟩; gi_at_call 159; refine (callsIn_wide.2 (f2.out _)).mono ?_; rintro e w3 ⟨rfl, hb3⟩; have HB3 := Lib.hid (HBa.out.trans (hb3.mono (by simp))); have HM3 := Lib.hid (box_keep (heap_alloc_new wr (.cells #[.int .i64 x0, .int .i64 x1, .int .i64 x2, .int .i64 x3] 109)) hb3); obtain ⟨qx, qy⟩ := box_rules HM3.out; clear hb3; obtain ⟨fn, tmps, assign, body, hy, hR⟩ := HY2.out _ HB3.out; unfold arv at hy; dsimp only at hy; have HR := Lib.hid hR; clear hR)
      refine HR.out.mono ?_
      rintro e W3 (⟨rfl, hJ4, hk4⟩ | ⟨rfl, hJx4⟩)
      · have HJ4 := Lib.hid hJ4; have HK4 := Lib.hid hk4
        clear hJ4 hk4
        gi_wp2
        go_roundw
        case rel =>
          refine ⟨k + 1, by omega, by go_num, by rw [HS2.out]; exact HJ4.out, (HK2.out _ HB3.out).trans HK4.out, Nat.le_trans hs (Nat.le_trans HB3.out.size HK4.out.below.size)⟩
        case measure => simp [intOf]; omega
      · have HJ4 := Lib.hid hJx4
        clear hJx4
        gi_wp2
        refine bodyPost_ret (results_none rfl _ _ _) rfl ?_
        exact ⟨⟨_, rfl⟩, .inr ⟨_, HP.out, by rw [HS2.out]; exact HJ4.out⟩⟩
    · obtain rfl : k = l.length := by omega
      gi_wp2
      go_end0
      exact ⟨⟨_, rfl⟩, .inl ⟨_, rfl, Hj.out⟩⟩
end Go.Proofs.YtgampofpabllbaaGreat

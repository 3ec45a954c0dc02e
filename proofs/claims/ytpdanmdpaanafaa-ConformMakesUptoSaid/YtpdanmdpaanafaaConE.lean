/- Package conform: the walks of arrivals and of Marks. Conditions: lists that read. -/
import Derived.Test.YtpdanmdpaanafaaConD
import Derived.Test.YtpdanmdpaanafaaMapI
namespace Go.Proofs.Ytpdanmdpaanafaa
open Go.RowKit Go.Shelf
attribute [local go_sem] Oper.semAt_some

/-- What lay below nA stands, and all cells and maps but those named. -/
structure KeepsBut (nA : Nat) (out : List Nat) (W W' : World) : Prop where
  below : Below nA W W'
  same : ∀ (k : Nat) (o : Obj), k ∉ out → W.heap[k]? = some o → (o.isCells = true ∨ o.isWalk = true) → W'.heap[k]? = some o
theorem KeepsBut.refl {nA : Nat} {out : List Nat} (W : World) : KeepsBut nA out W W := ⟨Below.refl _ _, fun _ _ _ h _ => h⟩
theorem KeepsBut.trans {nA : Nat} {out : List Nat} {A B C : World} (h : KeepsBut nA out A B) (k : KeepsBut nA out B C) : KeepsBut nA out A C :=
  ⟨h.below.trans k.below, fun i o hi ho hc => k.same i o hi (h.same i o hi ho hc) hc⟩
theorem KeepsBut.alloc {nA : Nat} {out : List Nat} {W W' : World} (h : KeepsBut nA out W W') (ha : nA ≤ W'.heap.size) (o : Obj) : KeepsBut nA out W (W'.alloc o) :=
  ⟨h.below.alloc ha o, fun k o' hk h' hc => by
    have := h.same k o' hk h' hc
    exact (Below.heap_alloc W' o k (Array.getElem?_eq_some_iff.1 this).1).trans this⟩
theorem KeepsBut.set {nA : Nat} {out : List Nat} {W W' : World} (h : KeepsBut nA out W W') {p : Addr} (h1 : nA ≤ p.block) (h2 : p.block ∈ out) (u : Value) : KeepsBut nA out W (W'.setCell p u) :=
  ⟨h.below.setCell h1 u, fun k o hk h' hc => by
    have := h.same k o hk h' hc
    exact (Below.heap_setCell W' p u k (fun e => hk (e ▸ h2))).trans this⟩
theorem KeepsBut.grown {nA b : Nat} {out : List Nat} {W W' w2 : World} (h : KeepsBut nA out W W') (hg : W'.grownBy w2 (some b)) (ha : nA ≤ W'.heap.size) (h1 : nA ≤ b) (h2 : b ∈ out) : KeepsBut nA out W w2 :=
  ⟨h.below.grown hg ha (fun k e => by cases e; exact h1), fun k o hk h' hc => by
    have := h.same k o hk h' hc
    exact (hg.block k (Array.getElem?_eq_some_iff.1 this).1 (fun e => by injection e with e; exact hk (e ▸ h2))).trans this⟩
theorem KeepsBut.drewN {nA : Nat} {out : List Nat} {W W' : World} (h : KeepsBut nA out W W') (n : Nat) : KeepsBut nA out W (W'.drewN n) := ⟨bdrewN h.below n, h.same⟩
theorem KeepsBut.call {nA : Nat} {out : List Nat} {W W' w2 : World} (h : KeepsBut nA out W W') (hb : Below W'.heap.size W' w2) (ha : nA ≤ W'.heap.size) : KeepsBut nA out W w2 :=
  ⟨h.below.trans (hb.mono ha), fun k o hk h' hc => by
    have := h.same k o hk h' hc
    exact (hb.block k (Array.getElem?_eq_some_iff.1 this).1).trans this⟩
theorem KeepsBut.put {nA n : Nat} {out : List Nat} (hn : nA ≤ n) : ∀ (W : World) (l : Nat) (o o' : Obj), n ≤ l → W.heap[l]? = some o → o.isCells = false → o.isWalk = false → KeepsBut nA out W (W.putObj l o') := by
  intro W l o o' hl ho hc hw
  refine ⟨(Below.refl nA W).grown (grownBy_putObj' W l o') (by have := (Array.getElem?_eq_some_iff.1 ho).1; omega) (fun k e => by cases e; omega), fun k x _ hx hcw => ?_⟩
  by_cases e : k = l
  · subst e
    rw [ho] at hx
    injection hx with hx
    subst hx
    rcases hcw with h | h
    · rw [hc] at h; cases h
    · rw [hw] at h; cases h
  · exact (World.putObj_heap_other e).trans hx
theorem KeepsBut.box {nA : Nat} {out : List Nat} {W W' : World} (h : KeepsBut nA out W W') {b : Nat} (hb : b ∉ out) {cs : Array Value} {t : TypeId} {z : Nat × Nat} (hc : W.heap[b]? = some (.cells cs t z)) : W'.heap[b]? = some (.cells cs t z) := h.same b _ hb hc (.inl rfl)

/-- A mark that comes, with its place. -/
structure Arr (ts : List Tk) where
  val : Nat × Mk
  ok : comes ts val.2 = true ∧ I64 val.2.time ∧ I64 val.2.who
open Classical in
/-- The marks of sporadic tasks' jobs that come, each with its place, among the first k. -/
noncomputable def arrA (ts : List Tk) (ms : List Mk) : Nat → List (Arr ts)
  | 0 => []
  | k + 1 => arrA ts ms k ++ if h : comes ts (ms.getD k mk0) = true ∧ I64 (ms.getD k mk0).time ∧ I64 (ms.getD k mk0).who then [⟨(k, ms.getD k mk0), h⟩] else []
theorem arrA_yes {ts : List Tk} {ms : List Mk} {k : Nat} {x : Mk} (hx : ms.getD k mk0 = x) (h : comes ts x = true ∧ I64 x.time ∧ I64 x.who) : arrA ts ms (k + 1) = arrA ts ms k ++ [⟨(k, x), h⟩] := by
  subst hx
  show arrA ts ms k ++ _ = _
  rw [dif_pos h]
theorem arrA_no {ts : List Tk} {ms : List Mk} {k : Nat} {x : Mk} (hx : ms.getD k mk0 = x) (h : comes ts x = false) : arrA ts ms (k + 1) = arrA ts ms k := by
  subst hx
  show arrA ts ms k ++ _ = _
  rw [dif_neg (by rw [h]; rintro ⟨h, _⟩; cases h), List.append_nil]
theorem arrA_pre (ts : List Tk) (ms : List Mk) (k : Nat) : ∀ n, k ≤ n → arrA ts ms k <+: arrA ts ms n
  | 0, h => by obtain rfl : k = 0 := by omega
               exact List.prefix_refl _
  | n + 1, h => by
    by_cases e : k = n + 1
    · subst e; exact List.prefix_refl _
    · exact List.IsPrefix.trans (arrA_pre ts ms k n (by omega)) (List.prefix_append _ _)
theorem arrA_len (ts : List Tk) (ms : List Mk) : ∀ k, (arrA ts ms k).length ≤ k
  | 0 => Nat.le_refl _
  | k + 1 => by
    have ih := arrA_len ts ms k
    show (arrA ts ms k ++ _).length ≤ _
    rw [List.length_append]
    split
    · show (arrA ts ms k).length + 1 ≤ k + 1
      omega
    · show (arrA ts ms k).length + 0 ≤ k + 1
      omega
def pmv {ts : List Tk} (p : Arr ts) : Array Value := #[.int .i64 p.1.1, mkv p.1.2]

theorem arrivals_any (b : Nat) (T : Option Addr) (n c : Nat) (w : World) :
    Calls Try.prog 47 #[.pointer (some ⟨b, 0, none⟩), .slice T n c] w fun e w' =>
      e = .returned (.func (.func 73) #[] #[.pointer (some ⟨w.heap.size + 1, 0, none⟩), .pointer (some ⟨w.heap.size, 0, none⟩)]) ∧
      (w.alloc (.cells #[.pointer (some ⟨b, 0, none⟩)] 122)).alloc (.cells #[.slice T n c] 49) = w' := by
  go_enter Try.func47, Try.ntmps47
  go_wp2
  go_ret
  exact ⟨by simp, rfl⟩

set_option maxHeartbeats 4000000 in
set_option maxRecDepth 100000 in
/-- What arrivals hands back. -/
theorem arr_iter (mn mx sw : Int) (ts : List Tk) (A : Option Addr) (ca : Nat) (B : Option Addr) (nb cb : Nat) (D : Option Addr) (nd cd : Nat) (ms : List Mk) (T : Option Addr) (tc : Nat) (b d m : Nat) (out : List Nat) (w0 w : World)
    (hlm : ms.length ≤ 1048576) (h0 : Below w0.heap.size w0 w) (hb : b ∉ out) (hd : d ∉ out)
    (hc : w.heap[b]? = some (.cells (cfc mn mx sw A ts.length ca B nb cb D nd cd) 124 (0, 0)))
    (hdp : w.heap[d]? = some (.cells #[.pointer (some ⟨b, 0, none⟩)] 122 (0, 0)))
    (hmp : w.heap[m]? = some (.cells #[.slice T ms.length tc] 49 (0, 0)))
    (ht : Rd w0 A (ts.flatMap tkc)) (hr : Rd w0 T (ms.flatMap mkc)) (h64 : ∀ k, k < ms.length → I64 (ms.getD k mk0).time ∧ I64 (ms.getD k mk0).who) :
    SeqStopsK Fence.wide 8 Try.prog 73 #[.pointer (some ⟨m, 0, none⟩), .pointer (some ⟨d, 0, none⟩)] pmv (KeepsBut w0.heap.size out) (fun xs => xs = arrA ts ms ms.length)
      (fun pre => pre <+: arrA ts ms ms.length) ms.length w := fun l J Jx W hW hJ hJx hY hJ0 => by
  have HC := Lib.hid (box_keep hc hW)
  have HDp := Lib.hid (box_keep hdp hW)
  have HMp := Lib.hid (box_keep hmp hW)
  have HW0 := Lib.hid (h0.trans (hW.mono h0.size))
  have Ht := Lib.hid ht; have Hr := Lib.hid hr; have H64 := Lib.hid h64; have HJ := Lib.hid hJ; have HY := Lib.hid hY; have HJ0 := Lib.hid hJ0
  have s0 := h0.size
  have sW := hW.size
  have f2 := Lib.hid (fun x w ht hc => sporadic_any mn mx sw ts A ca B nb cb D nd cd b x w ht hc)
  clear hc hdp hmp h0 hW ht hr h64 hJ hJx hY hJ0
  obtain ⟨hmx, hmy⟩ := box_rules HMp.out
  refine callsIn_of_wp Try.func73 rfl trivial ?_ rfl
  simp only [Try.ntmps73, List.size_toArray, List.length_cons, List.length_nil, Nat.reduceAdd, Nat.reduceSub, Array.replicate_succ, Array.replicate_zero, List.push_toArray, List.append_toArray, List.nil_append, List.cons_append]
  gi_wp2
  gi_loopw [8] (fun i wr => ∃ k : Nat, k ≤ ms.length ∧ i = .int .i64 k ∧ J (arrA ts ms k) wr ∧ KeepsBut w0.heap.size out W wr ∧ W.heap.size ≤ wr.heap.size) (fun i _ => ms.length - (intOf i).toNat)
  case atStart => exact ⟨0, by omega, rfl, HJ0.out, KeepsBut.refl _, Nat.le_refl _⟩
  case round =>
    obtain ⟨k, hk, rfl, hj, hK, hs⟩ := hrel
    have Hj := Lib.hid hj; have HK := Lib.hid hK
    clear hj hK
    by_cases hlt : k < ms.length
    · obtain ⟨a, x, rfl, hx2, g0, g1, g2, g3⟩ := (Hr.out.below (HW0.out.trans HK.out.below)).mkAt hlt
      have HD2 := Lib.hid (HK.out.box hd HDp.out)
      have HC2 := Lib.hid (HK.out.box hb HC.out)
      obtain ⟨kx, ky⟩ := box_rules HD2.out
      have lx := box_lt HD2.out
      have HtR := Lib.hid (Ht.out.below (HW0.out.trans HK.out.below))
      have HL := Lib.hid (Nat.lt_of_le_of_lt (arrA_len ts ms k) hlt)
      have HP := Lib.hid (arrA_pre ts ms (k + 1) ms.length hlt)
      have H6 := H64.out k hlt
      rw [hx2] at H6
      have HX2 := Lib.hid hx2; have HX6 := Lib.hid H6
      clear hx2 H6
      have f3 := Lib.hid (fun w ht hc => f2.out x w ht hc)
      obtain ⟨x0, x1, x2, x3⟩ := x
      unfold mkv at f3
      dsimp only at f3 g0 g1 g2 g3
      have HJ3 := Lib.hid (fun w3 (hb3 : Below wr.heap.size wr w3) => HJ.out _ _ _ none Hj.out (below_grown hb3) (fun _ h => by cases h))
      have sa : w0.heap.size ≤ wr.heap.size := by omega
      have HK2 := Lib.hid (fun w3 (hb3 : Below wr.heap.size wr w3) => HK.out.call hb3 sa)
      generalize hv : comes ts ⟨x0, x1, x2, x3⟩ = v at f3
      have HV := Lib.hid hv
      clear hv
      have HBa : Hid (Below wr.heap.size wr (wr.alloc (.cells #[.int .i64 x0, .int .u8 x1, .int .i64 x2, .int .i64 x3] 121))) := Lib.hid ((Below.refl _ _).alloc (Nat.le_refl _) _)
      cases v with
      | true =>
        have HS2 := Lib.hid (arrA_yes HX2.out ⟨HV.out, HX6.out⟩)
        have HY2 := Lib.hid (fun w3 (hb3 : Below wr.heap.size wr w3) => HY.out (arrA ts ms k) ⟨(k, ⟨x0, x1, x2, x3⟩), HV.out, HX6.out⟩ w3 (HJ.out _ _ _ none Hj.out (below_grown hb3) (fun _ h => by cases h)) HL.out)
        gi_wp2_with (refine ⟨trivial, ?_⟩; gi_at_call 74; refine (callsIn_wide.2 (f3.out _ (HtR.out.alloc _) (box_alloc HC2.out _))).mono ?_; rintro e w3 ⟨rfl, hb3⟩; have HB3 := Lib.hid (HBa.out.trans (hb3.mono (by simp))); have HM3 := Lib.hid (box_keep (heap_alloc_new wr (.cells #[.int .i64 x0, .int .u8 x1, .int .i64 x2, .int .i64 x3] 121)) hb3); obtain ⟨qx, qy⟩ := box_rules HM3.out; have lq := box_lt HM3.out; clear hb3; obtain ⟨fn, tmps, assign, body, hy, hR⟩ := HY2.out _ HB3.out; unfold pmv mkv at hy; dsimp only at hy; have HR := Lib.hid hR; clear hR)
        refine HR.out.mono ?_
        rintro e W3 (⟨rfl, hJ4, hk4⟩ | ⟨rfl, hJx4⟩)
        · have HJ4 := Lib.hid hJ4; have HK4 := Lib.hid hk4
          clear hJ4 hk4
          gi_wp2
          go_roundw
          case rel =>
            refine ⟨k + 1, by omega, by go_num, by rw [HS2.out]; exact HJ4.out, (HK2.out _ HB3.out).trans HK4.out, Nat.le_trans hs (Nat.le_trans HB3.out.size HK4.out.below.size)⟩
          case measure => simp [intOf]; omega
        · have HJ4 := Lib.hid hJx4
          clear hJx4
          gi_wp2
          refine bodyPost_ret (results_none rfl _ _ _) rfl ?_
          exact ⟨⟨_, rfl⟩, .inr ⟨_, HP.out, by rw [HS2.out]; exact HJ4.out⟩⟩
      | false =>
        have HS2 := Lib.hid (arrA_no HX2.out HV.out)
        gi_wp2_with (first | (refine ⟨trivial, ?_⟩; gi_at_call 74; refine (callsIn_wide.2 (f3.out _ (HtR.out.alloc _) (box_alloc HC2.out _))).mono ?_; rintro e w3 ⟨rfl, hb3⟩; have HB3 := Lib.hid (HBa.out.trans (hb3.mono (by simp))); have HM3 := Lib.hid (box_keep (heap_alloc_new wr (.cells #[.int .i64 x0, .int .u8 x1, .int .i64 x2, .int .i64 x3] 121)) hb3); obtain ⟨qx, qy⟩ := box_rules HM3.out; have lq := box_lt HM3.out; clear hb3))
        refine ⟨fun _ h => (by cases h), ?_⟩
        gi_wp2
        go_roundw
        case rel =>
          refine ⟨k + 1, by omega, by go_num, by rw [HS2.out]; exact HJ3.out _ HB3.out, HK2.out _ HB3.out, Nat.le_trans hs HB3.out.size⟩
        case measure => simp [intOf]; omega
    · obtain rfl : k = ms.length := by omega
      gi_wp2
      go_end0
      exact ⟨⟨_, rfl⟩, .inl ⟨_, rfl, Hj.out⟩⟩
end Go.Proofs.Ytpdanmdpaanafaa

/- Package chart: the walks of spans and what it hands back. Conditions: lists that read. -/
import Derived.Test.YtlmhgfgdkenpfaaDoorChB
import Derived.Test.YtlmhgfgdkenpfaaDoorRfW
namespace Go.Proofs.YtlmhgfgdkenpfaaDoor
open Go.RowKit Go.Shelf
attribute [local go_sem] Oper.semAt_some

/-- What lay below nA stands, and all cells and maps below n1 but those named, and all that hold marks. -/
structure KeepsMk (nA : Nat) (out : List Nat) (n1 : Nat) (W W' : World) : Prop where
  below : Below nA W W'
  same : ∀ (k : Nat) (o : Obj), W.heap[k]? = some o → (o.isCells = true ∨ o.isWalk = true) → ((k ≤ n1 ∧ k ∉ out) ∨ ∃ cs z, o = .cells cs 51 z) → W'.heap[k]? = some o
theorem KeepsMk.refl {nA n1 : Nat} {out : List Nat} (W : World) : KeepsMk nA out n1 W W := ⟨Below.refl _ _, fun _ _ h _ _ => h⟩
theorem KeepsMk.trans {nA n1 : Nat} {out : List Nat} {A B C : World} (h : KeepsMk nA out n1 A B) (k : KeepsMk nA out n1 B C) : KeepsMk nA out n1 A C :=
  ⟨h.below.trans k.below, fun i o ho hc hn => k.same i o (h.same i o ho hc hn) hc hn⟩
theorem KeepsMk.alloc {nA n1 : Nat} {out : List Nat} {W W' : World} (h : KeepsMk nA out n1 W W') (ha : nA ≤ W'.heap.size) (o : Obj) : KeepsMk nA out n1 W (W'.alloc o) :=
  ⟨h.below.alloc ha o, fun k o' h' hc hn => by
    have := h.same k o' h' hc hn
    exact (Below.heap_alloc W' o k (Array.getElem?_eq_some_iff.1 this).1).trans this⟩
theorem KeepsMk.put {nA n1 n : Nat} {out : List Nat} (hn : nA ≤ n) : ∀ (W : World) (l : Nat) (o o' : Obj), n ≤ l → W.heap[l]? = some o → o.isCells = false → o.isWalk = false → KeepsMk nA out n1 W (W.putObj l o') := by
  intro W l o o' hl ho hc hw
  refine ⟨(Below.refl nA W).grown (grownBy_putObj' W l o') (by have := (Array.getElem?_eq_some_iff.1 ho).1; omega) (fun k e => by cases e; omega), fun k x hx hcw _ => ?_⟩
  by_cases e : k = l
  · subst e
    rw [ho] at hx
    injection hx with hx
    subst hx
    rcases hcw with h | h
    · rw [hc] at h; cases h
    · rw [hw] at h; cases h
  · exact (World.putObj_heap_other e).trans hx
theorem KeepsMk.box {nA n1 : Nat} {out : List Nat} {W W' : World} (h : KeepsMk nA out n1 W W') {b : Nat} (hi : b ≤ n1) (hb : b ∉ out) {cs : Array Value} {t : TypeId} {z : Nat × Nat} (hc : W.heap[b]? = some (.cells cs t z)) : W'.heap[b]? = some (.cells cs t z) := h.same b _ hc (.inl rfl) (.inl ⟨hi, hb⟩)
theorem KeepsMk.mark {nA n1 : Nat} {out : List Nat} {W W' : World} (h : KeepsMk nA out n1 W W') {b : Nat} {cs : Array Value} {z : Nat × Nat} (hc : W.heap[b]? = some (.cells cs 51 z)) : W'.heap[b]? = some (.cells cs 51 z) := h.same b _ hc (.inl rfl) (.inr ⟨_, _, rfl⟩)
theorem below_grown' {w w' : World} (h : Below w.heap.size w w') : w.grownBy w' none := ⟨h.os, h.tape, h.output, h.size, fun k hk _ => h.block k hk⟩
theorem spans_any (A : Option Addr) (n c : Nat) (start now : Int) (w : World) : Calls Tryd.prog 19 #[.slice A n c, .int .i64 start, .int .i64 now] w fun e w' =>
    e = .returned (.func (.func 29) #[] #[.pointer (some ⟨w.heap.size + 1, 0, none⟩), .pointer (some ⟨w.heap.size, 0, none⟩), .pointer (some ⟨w.heap.size + 2, 0, none⟩)]) ∧
    ((w.alloc (.cells #[.slice A n c] 22)).alloc (.cells #[.int .i64 start] 2)).alloc (.cells #[.int .i64 now] 2) = w' := by
  go_enter Tryd.func19, Tryd.ntmps19
  go_wp2
  go_ret
  exact ⟨rfl, rfl⟩
/-- What the loop of spans holds. -/
structure SpI (nA : Nat) (w0 : World) (b1 b2 b3 n : Nat) (A : Option Addr) (m c : Nat) (start now : Int) (x : Rn) (wr : World) : Prop where
  s1 : wr.heap[b1]? = some (.cells #[.int .i64 start] 2 (0, 0))
  s2 : wr.heap[b2]? = some (.cells #[.slice A m c] 22 (0, 0))
  s3 : wr.heap[b3]? = some (.cells #[.int .i64 now] 2 (0, 0))
  sx : wr.heap[n]? = some (.cells #[.int .u8 x.kind, .int .i64 x.who, .int .i64 x.ff, .int .i64 x.tt] 33 (0, 0))
  low : Below nA w0 wr
section
variable {nA : Nat} {w0 : World} {b1 b2 b3 n : Nat} {A : Option Addr} {m c : Nat} {start now : Int} {x : Rn} {wr w' : World}
theorem SpI.below (h : SpI nA w0 b1 b2 b3 n A m c start now x wr) (hn : nA ≤ wr.heap.size) (hb : Below wr.heap.size wr w') : SpI nA w0 b1 b2 b3 n A m c start now x w' :=
  ⟨box_keep h.s1 hb, box_keep h.s2 hb, box_keep h.s3 hb, box_keep h.sx hb, h.low.trans (hb.mono hn)⟩
theorem SpI.keeps (h : SpI nA w0 b1 b2 b3 n A m c start now x wr) {out : List Nat} (hk : KeepsMk nA out n wr w') (h1 : b1 ≤ n ∧ b1 ∉ out) (h2 : b2 ≤ n ∧ b2 ∉ out) (h3 : b3 ≤ n ∧ b3 ∉ out) (hx : n ∉ out) : SpI nA w0 b1 b2 b3 n A m c start now x w' :=
  ⟨hk.box h1.1 h1.2 h.s1, hk.box h2.1 h2.2 h.s2, hk.box h3.1 h3.2 h.s3, hk.box (Nat.le_refl _) hx h.sx, h.low.trans hk.below⟩
theorem SpI.setT (h : SpI nA w0 b1 b2 b3 n A m c start now x wr) (hne : b1 ≠ n ∧ b2 ≠ n ∧ b3 ≠ n) (hn : nA ≤ n) (t : Int) : SpI nA w0 b1 b2 b3 n A m c start now { x with tt := t } (wr.setCell ⟨n, 3, none⟩ (.int .i64 t)) :=
  ⟨box_far h.s1 (p := ⟨n, 3, none⟩) hne.1 _, box_far h.s2 (p := ⟨n, 3, none⟩) hne.2.1 _, box_far h.s3 (p := ⟨n, 3, none⟩) hne.2.2 _, box_set (i := 3) h.sx _, h.low.setCell (p := ⟨n, 3, none⟩) hn _⟩
theorem SpI.setA (h : SpI nA w0 b1 b2 b3 n A m c start now x wr) (hne : b1 ≠ n ∧ b2 ≠ n ∧ b3 ≠ n) (hn : nA ≤ n) (y : Rn) : SpI nA w0 b1 b2 b3 n A m c start now y ((((wr.setCell ⟨n, 0, none⟩ (.int .u8 y.kind)).setCell ⟨n, 1, none⟩ (.int .i64 y.who)).setCell ⟨n, 2, none⟩ (.int .i64 y.ff)).setCell ⟨n, 3, none⟩ (.int .i64 y.tt)) := by
  refine ⟨?_, ?_, ?_, box_set (i := 3) (box_set (i := 2) (box_set (i := 1) (box_set (i := 0) h.sx _) _) _) _, (((h.low.setCell (p := ⟨n, 0, none⟩) hn _).setCell (p := ⟨n, 1, none⟩) hn _).setCell (p := ⟨n, 2, none⟩) hn _).setCell (p := ⟨n, 3, none⟩) hn _⟩
  · exact box_far (box_far (box_far (box_far h.s1 (p := ⟨n, 0, none⟩) hne.1 _) (p := ⟨n, 1, none⟩) hne.1 _) (p := ⟨n, 2, none⟩) hne.1 _) (p := ⟨n, 3, none⟩) hne.1 _
  · exact box_far (box_far (box_far (box_far h.s2 (p := ⟨n, 0, none⟩) hne.2.1 _) (p := ⟨n, 1, none⟩) hne.2.1 _) (p := ⟨n, 2, none⟩) hne.2.1 _) (p := ⟨n, 3, none⟩) hne.2.1 _
  · exact box_far (box_far (box_far (box_far h.s3 (p := ⟨n, 0, none⟩) hne.2.2 _) (p := ⟨n, 1, none⟩) hne.2.2 _) (p := ⟨n, 2, none⟩) hne.2.2 _) (p := ⟨n, 3, none⟩) hne.2.2 _
end
theorem turns4 {J : World → Prop} {n : Nat} {W : World} (h : ∀ A B, J A → Turns n A B → J B) (hn : n < W.heap.size) (hj : J W) (v0 v1 v2 v3 : Value) : J ((((W.setCell ⟨n, 0, none⟩ v0).setCell ⟨n, 1, none⟩ v1).setCell ⟨n, 2, none⟩ v2).setCell ⟨n, 3, none⟩ v3) :=
  h _ _ (h _ _ (h _ _ (h _ _ hj ⟨0, v0, hn, rfl⟩) ⟨1, v1, by simpa [World.setCell] using hn, rfl⟩) ⟨2, v2, by simpa [World.setCell] using hn, rfl⟩) ⟨3, v3, by simpa [World.setCell] using hn, rfl⟩
set_option maxHeartbeats 8000000 in
set_option maxRecDepth 100000 in
/-- What spans hands back. -/
theorem spans_iter (ms : List Mk) (start now : Int) (A : Option Addr) (c b1 b2 b3 : Nat) (out : List Nat) (w0 w : World) (hl : ms.length ≤ 1048576) (h0 : Below w0.heap.size w0 w) (hb1 : b1 ∉ out ∧ b1 < w.heap.size) (hb2 : b2 ∉ out ∧ b2 < w.heap.size) (hb3 : b3 ∉ out ∧ b3 < w.heap.size) (ho : ∀ k ∈ out, k < w.heap.size)
    (h1 : w.heap[b1]? = some (.cells #[.int .i64 start] 2 (0, 0))) (h2 : w.heap[b2]? = some (.cells #[.slice A ms.length c] 22 (0, 0))) (h3 : w.heap[b3]? = some (.cells #[.int .i64 now] 2 (0, 0))) (hr : Rd w0 A (ms.flatMap mkc)) :
    IterW Tryd.prog 29 #[.pointer (some ⟨b1, 0, none⟩), .pointer (some ⟨b2, 0, none⟩), .pointer (some ⟨b3, 0, none⟩)] (fun x : Rn => #[rnv x]) (KeepsMk w0.heap.size out) (fun xs => xs = spL ms start now) (fun pre => pre <+: spL ms start now) (ms.length + 1) w := fun l J Jx W hW hJ hJx hJt hJxt hY hJ0 => by
  have HI0 : Hid (∀ W', Below W.heap.size W W' → W'.heap[b1]? = some (.cells #[.int .i64 start] 2 (0, 0)) ∧ W'.heap[b2]? = some (.cells #[.slice A ms.length c] 22 (0, 0)) ∧ W'.heap[b3]? = some (.cells #[.int .i64 now] 2 (0, 0))) :=
    Lib.hid (fun W' hb => ⟨box_keep (box_keep h1 hW) hb, box_keep (box_keep h2 hW) hb, box_keep (box_keep h3 hW) hb⟩)
  have HL0 := Lib.hid (h0.trans (hW.mono h0.size))
  have s0 := Nat.le_trans h0.size hW.size
  have Hr := Lib.hid hr
  have HJ := Lib.hid hJ; have HJx := Lib.hid hJx; have HJt := Lib.hid hJt; have HJxt := Lib.hid hJxt; have HY := Lib.hid hY; have HJ0 := Lib.hid hJ0
  have HO : Hid (W.heap.size ∉ out) := Lib.hid (fun h => by have := ho _ h; have := hW.size; omega)
  have K1 : Hid (b1 ≤ W.heap.size ∧ b1 ∉ out) := Lib.hid ⟨by have := hW.size; omega, hb1.1⟩
  have K2 : Hid (b2 ≤ W.heap.size ∧ b2 ∉ out) := Lib.hid ⟨by have := hW.size; omega, hb2.1⟩
  have K3 : Hid (b3 ≤ W.heap.size ∧ b3 ∉ out) := Lib.hid ⟨by have := hW.size; omega, hb3.1⟩
  have KN : Hid (b1 ≠ W.heap.size ∧ b2 ≠ W.heap.size ∧ b3 ≠ W.heap.size) := Lib.hid (by have := hW.size; omega)
  have HSp : Hid (spL ms start now = spG now ⟨0, 0, start, 0⟩ (ms.drop 0)) := Lib.hid rfl
  obtain ⟨g1, g2, g3⟩ := HI0.out W (Below.refl _ _)
  obtain ⟨x1, y1⟩ := box_rules g1
  obtain ⟨x2, y2⟩ := box_rules g2
  have l1 := box_lt g1; have l2 := box_lt g2
  clear hr h0 hW h1 h2 h3 hJ hJx hJt hJxt hY hJ0 ho hb1 hb2 hb3 g1 g2 g3
  generalize spL ms start now = L at *
  refine callsIn_of_wp Tryd.func29 rfl trivial ?_ rfl
  simp only [Tryd.ntmps29, List.size_toArray, List.length_cons, List.length_nil, Nat.reduceAdd, Nat.reduceSub, Array.replicate_succ, Array.replicate_zero, List.push_toArray, List.append_toArray, List.nil_append, List.cons_append]
  refine wpIn_wide.2 ?_
  go_upto_region 1 with fail
  refine name_world fun V hV => ?_
  have hb : Below W.heap.size W V := by rw [hV]; exact (Below.refl _ _).alloc (Nat.le_refl _) _
  have HIV : Hid (SpI w0.heap.size w0 b1 b2 b3 W.heap.size A ms.length c start now ⟨0, 0, start, 0⟩ V) := Lib.hid ⟨(HI0.out V hb).1, (HI0.out V hb).2.1, (HI0.out V hb).2.2, by rw [hV]; exact heap_alloc_new _ _, HL0.out.trans (hb.mono s0)⟩
  have HJV := Lib.hid (HJ.out _ _ _ none HJ0.out (below_grown' hb) (fun _ h => by cases h))
  have hsV : W.heap.size < V.heap.size := by rw [hV]; simp
  clear hV hb x1 y1 x2 y2 l1 l2 HI0 HJ0 HL0
  generalize W.heap.size = n at *
  obtain ⟨x2, y2⟩ := box_rules HIV.out.s2
  go_wp2
  refine (wpIn_wide (n := 8)).1 ?_
  gi_loopw [12] (fun i wr => ∃ (k : Nat) (x : Rn) (pre : List Rn), k ≤ ms.length ∧ i = .int .i64 k ∧ pre.length ≤ k ∧ n < wr.heap.size ∧ Hid (L = pre ++ spG now x (ms.drop k)) ∧ Hid (J pre wr) ∧ Hid (SpI w0.heap.size w0 b1 b2 b3 n A ms.length c start now x wr)) (fun i _ => ms.length - (intOf i).toNat)
  case atStart => exact ⟨0, _, [], by omega, rfl, by simp, hsV, Lib.hid (by rw [HSp.out]; rfl), HJV, HIV⟩
  case round =>
    obtain ⟨k, x, pre, hk, rfl, hpl, hsr, HL, HJr, HIr⟩ := hrel
    clear x2 y2 hsV HIV HJV
    by_cases hlt : k < ms.length
    · obtain ⟨a, m, rfl, hm, z0, z1, z2, z3⟩ := (Hr.out.below HIr.out.low).mkAt hlt
      have HD := Lib.hid (drop_at (d := mk0) hlt)
      rw [hm] at HD
      clear hm
      obtain ⟨m0, m1, m2, m3⟩ := m
      dsimp only at *
      by_cases hk1 : m1 = 11
      · subst hk1
        have HL2 : Hid (L = (pre ++ [{ x with tt := m0 }]) ++ spG now ⟨IntKind.u8.wrap m3, m2, m0, 0⟩ (ms.drop (k + 1))) := Lib.hid (by rw [HL.out, HD.out]; (conv => (lhs; unfold spG)); rw [if_pos rfl, List.append_assoc]; rfl)
        have hsz : (wr.setCell ⟨n, 3, none⟩ (.int .i64 m0)).heap.size = wr.heap.size := by simp [World.setCell]
        have hal : Below (wr.setCell ⟨n, 3, none⟩ (.int .i64 m0)).heap.size (wr.setCell ⟨n, 3, none⟩ (.int .i64 m0)) ((wr.setCell ⟨n, 3, none⟩ (.int .i64 m0)).alloc (.cells #[.int .i64 m0, .int .u8 11, .int .i64 m2, .int .i64 m3] 51)) := (Below.refl _ _).alloc (Nat.le_refl _) _
        have HJ2 := Lib.hid (HJ.out _ _ _ none (HJt.out _ _ _ HJr.out ⟨3, .int .i64 m0, hsr, rfl⟩) (below_grown' hal) (fun _ h => by cases h))
        have HI2 := Lib.hid ((HIr.out.setT KN.out s0 m0).below (by rw [hsz]; omega) hal)
        have HM2 : Hid (((wr.setCell ⟨n, 3, none⟩ (.int .i64 m0)).alloc (.cells #[.int .i64 m0, .int .u8 11, .int .i64 m2, .int .i64 m3] 51)).heap[wr.heap.size]? = some (.cells #[.int .i64 m0, .int .u8 11, .int .i64 m2, .int .i64 m3] 51 (0, 0))) := Lib.hid (heap_new_at _ hsz)
        have hs2 : n < ((wr.setCell ⟨n, 3, none⟩ (.int .i64 m0)).alloc (.cells #[.int .i64 m0, .int .u8 11, .int .i64 m2, .int .i64 m3] 51)).heap.size := by rw [World.size_alloc, hsz]; omega
        obtain ⟨fn, tmps, assign, body, hy, hR⟩ := HY.out pre { x with tt := m0 } _ HJ2.out hs2 (by omega)
        have HR := Lib.hid hR
        have HXn := Lib.hid HIr.out.sx
        obtain ⟨q0, q1, q2, q3⟩ := x
        dsimp only [rnv] at hy HXn HI2 HL2
        obtain ⟨xx, xy⟩ := box_rules HXn.out
        have lk := box_lt HXn.out
        clear hal hR HD HL hs2 hsz HXn
        gi_wp2
        refine HR.out.mono ?_
        rintro e W3 (⟨rfl, hJ3, hk3⟩ | ⟨rfl, hJx3⟩)
        · have HI3 := Lib.hid (HI2.out.keeps hk3 K1.out K2.out K3.out HO.out)
          have HM3 := Lib.hid (hk3.mark HM2.out)
          have hs3 : n < W3.heap.size := box_lt HI3.out.sx
          have HI4 := Lib.hid (HI3.out.setA KN.out s0 ⟨IntKind.u8.wrap m3, m2, m0, 0⟩)
          have HJ4 := Lib.hid (turns4 (J := J (pre ++ [⟨q0, q1, q2, m0⟩])) (fun A B => HJt.out _ A B) hs3 hJ3 (.int .u8 (IntKind.u8.wrap m3)) (.int .i64 m2) (.int .i64 m0) (.int .i64 0))
          have HX3 := Lib.hid HI3.out.sx
          dsimp only at HX3
          have lk3 := box_lt HX3.out
          clear xx xy lk
          obtain ⟨xx, xy⟩ := box_rules HX3.out
          obtain ⟨mx, my⟩ := box_rules HM3.out
          clear hJ3 hk3 HX3
          gi_wp2
          go_roundw
          case rel => exact ⟨k + 1, ⟨IntKind.u8.wrap m3, m2, m0, 0⟩, pre ++ [⟨q0, q1, q2, m0⟩], by omega, by go_num, by rw [List.length_append, List.length_singleton]; omega, by simpa [World.setCell] using hs3, HL2, HJ4, HI4⟩
          case measure => simp [intOf]; omega
        · have HP : Hid (pre ++ [⟨q0, q1, q2, m0⟩] <+: L) := Lib.hid (by rw [HL2.out]; exact List.prefix_append _ _)
          gi_wp2
          refine bodyPost_ret (results_none rfl _ _ _) rfl ?_
          exact ⟨⟨_, rfl⟩, .inr ⟨_, HP.out, hJx3⟩⟩
      · have HL2 : Hid (L = pre ++ spG now x (ms.drop (k + 1))) := Lib.hid (by rw [HL.out, HD.out]; (conv => (lhs; unfold spG)); rw [if_neg hk1])
        have hk2 : (m1 != 11) = true := by simpa using hk1
        have hal : ∀ o, Below wr.heap.size wr (wr.alloc o) := fun o => (Below.refl _ _).alloc (Nat.le_refl _) o
        have HJ2 := Lib.hid (fun o => HJ.out _ _ _ none HJr.out (below_grown' (hal o)) (fun _ h => by cases h))
        have HI2 := Lib.hid (fun o => HIr.out.below (by omega) (hal o))
        clear hal hk1 HD HL
        gi_wp2
        go_roundw
        case rel => exact ⟨k + 1, x, pre, by omega, by go_num, by omega, by simp; omega, HL2, Lib.hid (HJ2.out _), Lib.hid (HI2.out _)⟩
        case measure => simp [intOf]; omega
    · obtain rfl : k = ms.length := by omega
      have HL2 : Hid (L = pre ++ [{ x with tt := now }]) := Lib.hid (by rw [HL.out, List.drop_length]; rfl)
      have hsz : (wr.setCell ⟨n, 3, none⟩ (.int .i64 now)).heap.size = wr.heap.size := by simp [World.setCell]
      have HJ2 := Lib.hid (HJt.out _ _ _ HJr.out ⟨3, .int .i64 now, hsr, rfl⟩)
      obtain ⟨fn, tmps, assign, body, hy, hR⟩ := HY.out pre { x with tt := now } _ HJ2.out (by rw [hsz]; exact hsr) (by omega)
      have HR := Lib.hid hR
      have HXn := Lib.hid HIr.out.sx
      obtain ⟨x3, y3⟩ := box_rules HIr.out.s3
      have l3 := box_lt HIr.out.s3
      have hne := KN.out.2.2
      have hne' := fun e : n = b3 => hne e.symm
      obtain ⟨q0, q1, q2, q3⟩ := x
      dsimp only [rnv] at hy HXn HL2
      obtain ⟨xx, xy⟩ := box_rules HXn.out
      clear hR HL hsz HXn
      gi_wp2
      refine (wpIn_wide (n := 8)).1 ?_
      gi_wp2
      refine HR.out.mono ?_
      rintro e W3 (⟨rfl, hJ3, hk3⟩ | ⟨rfl, hJx3⟩)
      · gi_wp2
        go_end0
        exact ⟨⟨_, rfl⟩, .inl ⟨_, HL2.out.symm, hJ3⟩⟩
      · gi_wp2
        go_end0
        exact ⟨⟨_, rfl⟩, .inr ⟨_, by rw [HL2.out]; exact List.prefix_refl _, hJx3⟩⟩
end Go.Proofs.YtlmhgfgdkenpfaaDoor

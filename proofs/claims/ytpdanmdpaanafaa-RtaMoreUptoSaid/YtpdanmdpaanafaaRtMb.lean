/- vergelaw28: the walk of RtaMore. Conditions: lists that read. -/
import Derived.Test.YtpdanmdpaanafaaRtMa
import Derived.Test.YtpdanmdpaanafaaRtCy
import Derived.Test.YtpdanmdpaanafaaRtYP
import Derived.Deep.DeepCutAuto
namespace Go.Proofs.Ytpdanmdpaanafaa
open Go.RowKit Go.Shelf

/-- A store into an own row. -/
theorem own_put {w : World} {base : Nat} {e : TypeId} {k n c : Nat} {a : Addr} {vs : List Value} (h : w.ownsRow base e k (.slice (some a) n c) n vs) (m j : Nat) (u : Value) :
    (w.setCell ⟨(a.add m).block, (a.add m).off + j, none⟩ u).ownsRow base e k (.slice (some a) n c) n (vs.set (m + j) u) := by
  refine ⟨by rw [List.length_set]; exact h.1, ?_⟩
  rcases h.2 with ⟨h1, _⟩ | ⟨g, cap, cur, h1, h2, h3, h4, h5, h6, h7⟩
  · cases h1
  · injection h1 with h1 h8 h9
    injection h1 with h1
    subst h1 h9
    have e0 : ((⟨g, 0, none⟩ : Addr).add m) = ⟨g, m, none⟩ := by rw [add_zero_lit, Nat.zero_add]
    rw [e0]
    refine .inr ⟨g, _, cur.setIfInBounds (m + j) u, rfl, h2, ?_, h4, h5, by simpa using h6, ?_⟩
    · have := box_set (i := m + j) h3 u
      exact this
    · rw [Array.toList_setIfInBounds, List.take_set, h7]
theorem own_froz {w : World} {base : Nat} {e : TypeId} {k n c : Nat} {a : Addr} {vs : List Value} (h : w.ownsRow base e k (.slice (some a) n c) n vs) (m j : Nat) : w.frozen? ⟨(a.add m).block, (a.add m).off + j, none⟩ = false := by
  rcases h.2 with ⟨h1, _⟩ | ⟨g, cap, cur, h1, h2, h3, _⟩
  · cases h1
  · injection h1 with h1
    injection h1 with h1
    subst h1
    rw [add_zero_lit]
    exact (box_rules h3).2 _
theorem flat_set {α : Type} {f : α → List Value} {k : Nat} (hk : ∀ x, (f x).length = k) {d : α} : ∀ (l : List α) (i j : Nat) (y : α) (u : Value), i < l.length → j < k → f y = (f (l.getD i d)).set j u → (l.flatMap f).set (i * k + j) u = (l.set i y).flatMap f
  | x :: l, 0, j, y, u, _, hj, h => by
    rw [List.flatMap_cons, List.set_cons_zero, List.flatMap_cons, Nat.zero_mul, Nat.zero_add, List.set_append_left _ _ (by rw [hk]; exact hj), h]
    rfl
  | x :: l, i + 1, j, y, u, hi, hj, h => by
    have ih := flat_set hk (d := d) l i j y u (by simpa using hi) hj h
    rw [List.flatMap_cons, List.set_cons_succ, List.flatMap_cons, List.set_append_right _ _ (by rw [hk, Nat.add_mul]; omega), hk, show (i + 1) * k + j - k = i * k + j by rw [Nat.add_mul]; omega, ih]
theorem moreT_prio {ts : List Tk} {i o a p : Int} (h : p ∈ (moreT ts i o a).map (·.prio)) : p ∈ ts.map (·.prio) := by
  unfold moreT at h
  split at h
  · rename_i hm
    have hlt : o.toNat < ts.length := by have := hm.1; unfold more at this; omega
    obtain ⟨t, ht, rfl⟩ := List.mem_map.1 h
    rcases List.mem_or_eq_of_mem_set ht with h1 | rfl
    · exact List.mem_map.2 ⟨t, h1, rfl⟩
    · exact List.mem_map.2 ⟨_, getD_mem (d := tk0) hlt, rfl⟩
  · exact h
theorem moreH_prio {hs : List Th} {o a p : Int} (h : p ∈ (moreH hs o a).map (·.prio)) : p ∈ hs.map (·.prio) := by
  unfold moreH at h
  split at h
  · rename_i hm
    have hlt : o.toNat < hs.length := by unfold more at hm; omega
    obtain ⟨t, ht, rfl⟩ := List.mem_map.1 h
    rcases List.mem_or_eq_of_mem_set ht with h1 | rfl
    · exact List.mem_map.2 ⟨t, h1, rfl⟩
    · exact List.mem_map.2 ⟨_, getD_mem (d := ⟨0, 0, 0, 0⟩) hlt, rfl⟩
  · exact h
/-- What stands while the copy is written. -/
structure MoI (mn mx sw : Int) (nt nl nh bc bd base : Nat) (A : Option Addr) (ca : Nat) (B : Option Addr) (cb : Nat) (D : Option Addr) (cd : Nat) (A2 : Option Addr) (c2 : Nat) (B2 : Option Addr) (d2 : Nat) (D2 : Option Addr) (e2 : Nat) (w : World) (T : List Tk) (L : List Ln) (H : List Th) (wx : World) : Prop where
  boxc : wx.heap[bc]? = some (.cells #[.int .i64 mn, .int .i64 mx, .int .i64 sw, .slice A nt ca, .slice B nl cb, .slice D nh cd] 28 (0, 0))
  boxd : wx.heap[bd]? = some (.cells #[.int .i64 mn, .int .i64 mx, .int .i64 sw, .slice A2 nt c2, .slice B2 nl d2, .slice D2 nh e2] 28 (0, 0))
  o1 : wx.ownsRow base 44 10 (.slice A2 nt c2) nt (T.flatMap tkc)
  o2 : wx.ownsRow base 68 4 (.slice B2 nl d2) nl (L.flatMap lnc)
  o3 : wx.ownsRow base 46 4 (.slice D2 nh e2) nh (H.flatMap thc)
  low : Below w.heap.size w wx
theorem own_blk {w : World} {base : Nat} {e : TypeId} {k n c : Nat} {a : Addr} {vs : List Value} (h : w.ownsRow base e k (.slice (some a) n c) n vs) (m : Nat) : base ≤ (a.add m).block ∧ (Value.slice (some a) n c).ownBlock = some (a.add m).block := by
  rcases h.2 with ⟨h1, _⟩ | ⟨g, cap, cur, h1, h2, h3, _⟩
  · cases h1
  · injection h1 with h1
    injection h1 with h1
    subst h1
    rw [add_zero_lit]
    exact ⟨h2, rfl⟩
theorem MoI.putT {mn mx sw : Int} {nt nl nh bc bd base : Nat} {A : Option Addr} {ca : Nat} {B : Option Addr} {cb : Nat} {D : Option Addr} {cd : Nat} {c2 : Nat} {B2 : Option Addr} {d2 : Nat} {D2 : Option Addr} {e2 : Nat} {a : Addr} {w : World} {T : List Tk} {L : List Ln} {H : List Th} {wx : World}
    (h : MoI mn mx sw nt nl nh bc bd base A ca B cb D cd (some a) c2 B2 d2 D2 e2 w T L H wx) (hb : bc < base) (hw : w.heap.size ≤ base) {m : Nat} {x : Tk} (hm : m < T.length) (hx : T.getD m tk0 = x) {v : Int} :
    MoI mn mx sw nt nl nh bc bd base A ca B cb D cd (some a) c2 B2 d2 D2 e2 w (T.set m { x with cost := v }) L H (wx.setCell ⟨(a.add (m * 10)).block, (a.add (m * 10)).off + 5, none⟩ (.int .i64 v)) := by
  obtain ⟨b1, b2⟩ := own_blk h.o1 (m * 10)
  have b3 := own_apart_box h.o1 h.boxd (by decide)
  have b4 : bd ≠ (a.add (m * 10)).block := fun e => b3 (by rw [b2, e])
  refine ⟨box_far h.boxc (p := ⟨(a.add (m * 10)).block, (a.add (m * 10)).off + 5, none⟩) (by show bc ≠ (a.add (m * 10)).block; omega) _, box_far h.boxd (p := ⟨(a.add (m * 10)).block, (a.add (m * 10)).off + 5, none⟩) b4 _, ?_, ?_, ?_, h.low.setCell (p := ⟨(a.add (m * 10)).block, (a.add (m * 10)).off + 5, none⟩) (by show _ ≤ (a.add (m * 10)).block; omega) _⟩
  · rw [← flat_set (f := tkc) (k := 10) (fun _ => rfl) (d := tk0) T m 5 _ (.int .i64 v) hm (by decide) (by rw [hx]; rfl)]; exact own_put h.o1 (m * 10) 5 _
  · exact own_setK h.o2 (p := ⟨(a.add (m * 10)).block, (a.add (m * 10)).off + 5, none⟩) (own_apart h.o1 h.o2 (by decide) b2) _
  · exact own_setK h.o3 (p := ⟨(a.add (m * 10)).block, (a.add (m * 10)).off + 5, none⟩) (own_apart h.o1 h.o3 (by decide) b2) _
theorem MoI.putL {mn mx sw : Int} {nt nl nh bc bd base : Nat} {A : Option Addr} {ca : Nat} {B : Option Addr} {cb : Nat} {D : Option Addr} {cd : Nat} {A2 : Option Addr} {c2 : Nat} {d2 : Nat} {D2 : Option Addr} {e2 : Nat} {a : Addr} {w : World} {T : List Tk} {L : List Ln} {H : List Th} {wx : World}
    (h : MoI mn mx sw nt nl nh bc bd base A ca B cb D cd A2 c2 (some a) d2 D2 e2 w T L H wx) (hb : bc < base) (hw : w.heap.size ≤ base) {m : Nat} {x : Ln} (hm : m < L.length) (hx : L.getD m ⟨0, 0, 0, 0⟩ = x) {v : Int} :
    MoI mn mx sw nt nl nh bc bd base A ca B cb D cd A2 c2 (some a) d2 D2 e2 w T (L.set m { x with top := v }) H (wx.setCell ⟨(a.add (m * 4)).block, (a.add (m * 4)).off + 1, none⟩ (.int .i64 v)) := by
  obtain ⟨b1, b2⟩ := own_blk h.o2 (m * 4)
  have b3 := own_apart_box h.o2 h.boxd (by decide)
  have b4 : bd ≠ (a.add (m * 4)).block := fun e => b3 (by rw [b2, e])
  refine ⟨box_far h.boxc (p := ⟨(a.add (m * 4)).block, (a.add (m * 4)).off + 1, none⟩) (by show bc ≠ (a.add (m * 4)).block; omega) _, box_far h.boxd (p := ⟨(a.add (m * 4)).block, (a.add (m * 4)).off + 1, none⟩) b4 _, ?_, ?_, ?_, h.low.setCell (p := ⟨(a.add (m * 4)).block, (a.add (m * 4)).off + 1, none⟩) (by show _ ≤ (a.add (m * 4)).block; omega) _⟩
  · exact own_setK h.o1 (p := ⟨(a.add (m * 4)).block, (a.add (m * 4)).off + 1, none⟩) (own_apart h.o2 h.o1 (by decide) b2) _
  · rw [← flat_set (f := lnc) (k := 4) (fun _ => rfl) (d := ⟨0, 0, 0, 0⟩) L m 1 _ (.int .i64 v) hm (by decide) (by rw [hx]; rfl)]; exact own_put h.o2 (m * 4) 1 _
  · exact own_setK h.o3 (p := ⟨(a.add (m * 4)).block, (a.add (m * 4)).off + 1, none⟩) (own_apart h.o2 h.o3 (by decide) b2) _
theorem MoI.putH {mn mx sw : Int} {nt nl nh bc bd base : Nat} {A : Option Addr} {ca : Nat} {B : Option Addr} {cb : Nat} {D : Option Addr} {cd : Nat} {A2 : Option Addr} {c2 : Nat} {B2 : Option Addr} {d2 : Nat} {e2 : Nat} {a : Addr} {w : World} {T : List Tk} {L : List Ln} {H : List Th} {wx : World}
    (h : MoI mn mx sw nt nl nh bc bd base A ca B cb D cd A2 c2 B2 d2 (some a) e2 w T L H wx) (hb : bc < base) (hw : w.heap.size ≤ base) {m : Nat} {x : Th} (hm : m < H.length) (hx : H.getD m ⟨0, 0, 0, 0⟩ = x) {v : Int} :
    MoI mn mx sw nt nl nh bc bd base A ca B cb D cd A2 c2 B2 d2 (some a) e2 w T L (H.set m { x with budget := v }) (wx.setCell ⟨(a.add (m * 4)).block, (a.add (m * 4)).off + 1, none⟩ (.int .i64 v)) := by
  obtain ⟨b1, b2⟩ := own_blk h.o3 (m * 4)
  have b3 := own_apart_box h.o3 h.boxd (by decide)
  have b4 : bd ≠ (a.add (m * 4)).block := fun e => b3 (by rw [b2, e])
  refine ⟨box_far h.boxc (p := ⟨(a.add (m * 4)).block, (a.add (m * 4)).off + 1, none⟩) (by show bc ≠ (a.add (m * 4)).block; omega) _, box_far h.boxd (p := ⟨(a.add (m * 4)).block, (a.add (m * 4)).off + 1, none⟩) b4 _, ?_, ?_, ?_, h.low.setCell (p := ⟨(a.add (m * 4)).block, (a.add (m * 4)).off + 1, none⟩) (by show _ ≤ (a.add (m * 4)).block; omega) _⟩
  · exact own_setK h.o1 (p := ⟨(a.add (m * 4)).block, (a.add (m * 4)).off + 1, none⟩) (own_apart h.o3 h.o1 (by decide) b2) _
  · exact own_setK h.o2 (p := ⟨(a.add (m * 4)).block, (a.add (m * 4)).off + 1, none⟩) (own_apart h.o3 h.o2 (by decide) b2) _
  · rw [← flat_set (f := thc) (k := 4) (fun _ => rfl) (d := ⟨0, 0, 0, 0⟩) H m 1 _ (.int .i64 v) hm (by decide) (by rw [hx]; rfl)]; exact own_put h.o3 (m * 4) 1 _
set_option maxHeartbeats 4000000 in
set_option maxRecDepth 100000 in
theorem more28_cfg (mn mx sw : Int) (ts : List Tk) (ls : List Ln) (hs : List Th) (A : Option Addr) (ca : Nat) (B : Option Addr) (cb : Nat) (D : Option Addr) (cd : Nat) (n o a1 a2 a3 a4 : Int) (w : World)
    (hlt0 : ts.length ≤ 1048576) (hll : ls.length ≤ 1048576) (hlh : hs.length ≤ 1048576)
    (ht : Rd w A (ts.flatMap tkc)) (hl : Rd w B (ls.flatMap lnc)) (hh : Rd w D (hs.flatMap thc)) (hmx : I64 mx) (ht64 : ∀ p ∈ ts.map (·.prio) ++ hs.map (·.prio), I64 p) :
    Calls Try.prog 7 #[cfv mn mx sw A ts.length ca B ls.length cb D hs.length cd, .int .i64 n, .int .i64 o, .int .i64 a1, .int .i64 a2, .int .i64 a3, .int .i64 a4] w fun e w' => e = .returned (.bool true) ∧ Below w.heap.size w w' := by
  have c1 := Lib.hid (fun w ht hl hh => rbound_any mn mx sw ts ls hs A ca B cb D cd n w hlt0 hll hlh ht hl hh hmx ht64)
  have c0 := Lib.hid (fun w ht hl hh => check_cfg mn mx sw ts ls hs A ca B cb D cd w hlt0 hll hlh ht hl hh hmx ht64)
  have cp := Lib.hid (fun w ht hl hh => copy26_any mn mx sw ts ls hs A ca B cb D cd w hlt0 hll hlh ht hl hh)
  have f0 := Lib.hid (fun w => lives28 w)
  have ht64' : ∀ p ∈ (moreT ts n o a1).map (·.prio) ++ (moreH hs o a2).map (·.prio), I64 p := fun p hp => by
    rcases List.mem_append.1 hp with h | h
    · exact ht64 p (List.mem_append_left _ (moreT_prio h))
    · exact ht64 p (List.mem_append_right _ (moreH_prio h))
  have k1 := Lib.hid (fun A ca B cb D cd w ht hl hh => rbound_any mn mx (wrap64 (sw + lift a4)) (moreT ts n o a1) (moreL ls o a3) (moreH hs o a2) A ca B cb D cd n w (by rw [moreT_len]; exact hlt0) (by rw [moreL_len]; exact hll) (by rw [moreH_len]; exact hlh) ht hl hh hmx ht64')
  have k0 := Lib.hid (fun A ca B cb D cd w ht hl hh => check_cfg mn mx (wrap64 (sw + lift a4)) (moreT ts n o a1) (moreL ls o a3) (moreH hs o a2) A ca B cb D cd w (by rw [moreT_len]; exact hlt0) (by rw [moreL_len]; exact hll) (by rw [moreH_len]; exact hlh) ht hl hh hmx ht64')
  rw [moreT_len, moreL_len, moreH_len] at k1 k0
  have HFin : Hid (Cf.why ⟨mn, mx, sw, ts, ls, hs⟩ = 0 → Cf.why ⟨mn, mx, wrap64 (sw + lift a4), moreT ts n o a1, moreL ls o a3, moreH hs o a2⟩ = 0 →
      (if (askY (Cf.why ⟨mn, mx, sw, ts, ls, hs⟩) ts n) = 0 then (boundR mn sw ts ls hs (ts.getD n.toNat tk0)).2 else (askY (Cf.why ⟨mn, mx, sw, ts, ls, hs⟩) ts n)) = 0 →
      (if (askY (Cf.why ⟨mn, mx, wrap64 (sw + lift a4), moreT ts n o a1, moreL ls o a3, moreH hs o a2⟩) (moreT ts n o a1) n) = 0 then (boundR mn (wrap64 (sw + lift a4)) (moreT ts n o a1) (moreL ls o a3) (moreH hs o a2) ((moreT ts n o a1).getD n.toNat tk0)).2 else (askY (Cf.why ⟨mn, mx, wrap64 (sw + lift a4), moreT ts n o a1, moreL ls o a3, moreH hs o a2⟩) (moreT ts n o a1) n)) = 0 →
      (if (askY (Cf.why ⟨mn, mx, sw, ts, ls, hs⟩) ts n) = 0 then (boundR mn sw ts ls hs (ts.getD n.toNat tk0)).1 else 0) ≤ (if (askY (Cf.why ⟨mn, mx, wrap64 (sw + lift a4), moreT ts n o a1, moreL ls o a3, moreH hs o a2⟩) (moreT ts n o a1) n) = 0 then (boundR mn (wrap64 (sw + lift a4)) (moreT ts n o a1) (moreL ls o a3) (moreH hs o a2) ((moreT ts n o a1).getD n.toNat tk0)).1 else 0)) := Lib.hid (fun h1 h2 h3 h4 => by
    by_cases g1 : askY (Cf.why ⟨mn, mx, sw, ts, ls, hs⟩) ts n = 0
    · by_cases g2 : askY (Cf.why ⟨mn, mx, wrap64 (sw + lift a4), moreT ts n o a1, moreL ls o a3, moreH hs o a2⟩) (moreT ts n o a1) n = 0
      · rw [if_pos g1] at h3 ⊢
        rw [if_pos g2] at h4 ⊢
        obtain ⟨_, g3, g4⟩ := askY_zero g1
        generalize n.toNat = i at *
        subst g4
        exact more_bound o a1 a2 a3 a4 h1 g3 h3 h4
      · rw [if_neg g2] at h4; exact absurd h4 g2
    · rw [if_neg g1] at h3; exact absurd h3 g1)
  have Ht := Lib.hid ht; have Hl := Lib.hid hl; have Hh := Lib.hid hh
  clear ht hl hh hmx ht64 ht64'
  generalize (if (askY (Cf.why ⟨mn, mx, sw, ts, ls, hs⟩) ts n) = 0 then (boundR mn sw ts ls hs (ts.getD n.toNat tk0)).1 else 0) = N at *
  generalize (if (askY (Cf.why ⟨mn, mx, sw, ts, ls, hs⟩) ts n) = 0 then (boundR mn sw ts ls hs (ts.getD n.toNat tk0)).2 else (askY (Cf.why ⟨mn, mx, sw, ts, ls, hs⟩) ts n)) = Z at *
  generalize (if (askY (Cf.why ⟨mn, mx, wrap64 (sw + lift a4), moreT ts n o a1, moreL ls o a3, moreH hs o a2⟩) (moreT ts n o a1) n) = 0 then (boundR mn (wrap64 (sw + lift a4)) (moreT ts n o a1) (moreL ls o a3) (moreH hs o a2) ((moreT ts n o a1).getD n.toNat tk0)).1 else 0) = N2 at *
  generalize (if (askY (Cf.why ⟨mn, mx, wrap64 (sw + lift a4), moreT ts n o a1, moreL ls o a3, moreH hs o a2⟩) (moreT ts n o a1) n) = 0 then (boundR mn (wrap64 (sw + lift a4)) (moreT ts n o a1) (moreL ls o a3) (moreH hs o a2) ((moreT ts n o a1).getD n.toNat tk0)).2 else (askY (Cf.why ⟨mn, mx, wrap64 (sw + lift a4), moreT ts n o a1, moreL ls o a3, moreH hs o a2⟩) (moreT ts n o a1) n)) = Z2 at *
  generalize Cf.why ⟨mn, mx, wrap64 (sw + lift a4), moreT ts n o a1, moreL ls o a3, moreH hs o a2⟩ = y2 at *
  generalize Cf.why ⟨mn, mx, sw, ts, ls, hs⟩ = y at *
  unfold cfv RetN at *
  unfold RetCy cfv at cp
  go_enter Try.func7, Try.ntmps7
  go_upto_region 1 with fail
  refine name_world fun W hW => ?_
  have HC : Hid (W.heap[w.heap.size]? = some (.cells #[.int .i64 mn, .int .i64 mx, .int .i64 sw, .slice A ts.length ca, .slice B ls.length cb, .slice D hs.length cd] 28 (0, 0))) := Lib.hid (by rw [hW]; exact heap_alloc_new w _)
  have HBW : Hid (Below w.heap.size w W) := Lib.hid (by rw [hW]; exact (Below.refl _ _).alloc (Nat.le_refl _) _)
  have hR := fun w' (h : Hid (Below W.heap.size W w')) => (box_rules (box_keep HC.out h.out)).1
  have m1 := Lib.hid (fun w' (h : Hid (Below W.heap.size W w')) => (Ht.out.below HBW.out).below h.out)
  have m2 := Lib.hid (fun w' (h : Hid (Below W.heap.size W w')) => (Hl.out.below HBW.out).below h.out)
  have m3 := Lib.hid (fun w' (h : Hid (Below W.heap.size W w')) => (Hh.out.below HBW.out).below h.out)
  have hS0 := S_refl' W
  have q0 := hR _ hS0
  clear hW
  go_wp2_with fail
  refine (f0.out _).mono ?_
  rintro e w1 ⟨rfl, hb1⟩
  have hS1 := S_call' hS0 hb1
  have q1 := hR _ hS1
  clear hb1 q0
  go_wp2_with fail
  refine (c1.out _ (m1.out _ hS1) (m2.out _ hS1) (m3.out _ hS1)).mono ?_
  rintro e w2 ⟨rfl, hb1⟩
  have hS2 := S_call' hS1 hb1
  have q2 := hR _ hS2
  clear hb1 q1
  go_wp2_with fail
  refine (cp.out _ (m1.out _ hS2) (m2.out _ hS2) (m3.out _ hS2)).mono ?_
  rintro e w4 ⟨A2, c2, B2, d2, D2, e2, rfl, ho1, ho2, ho3, hb1⟩
  have hS4 := S_call' hS2 hb1
  have HO1 := Lib.hid ho1; have HO2 := Lib.hid ho2; have HO3 := Lib.hid ho3
  clear hb1 ho1 ho2 ho3 q2
  go_upto_region 5 with fail
  refine name_world fun V hV => ?_
  have lw4 : w.heap.size + 1 ≤ w4.heap.size := by have := hS4.out.size; have := box_lt HC.out; omega
  have HI : Hid (MoI mn mx sw ts.length ls.length hs.length w.heap.size w4.heap.size w2.heap.size A ca B cb D cd A2 c2 B2 d2 D2 e2 w ts ls hs V) := Lib.hid ⟨by rw [hV]; exact box_alloc (box_keep HC.out hS4.out) _, by rw [hV]; exact heap_alloc_new _ _, by rw [hV]; exact own_allocK HO1.out _, by rw [hV]; exact own_allocK HO2.out _, by rw [hV]; exact own_allocK HO3.out _, by rw [hV]; exact (HBW.out.trans (hS4.out.mono HBW.out.size)).alloc (by omega) _⟩
  have lw2 : w.heap.size < w2.heap.size := by have := hS2.out.size; have := box_lt HC.out; omega
  clear hV hR m1 m2 m3 hS0 hS1 hS2 hS4 HC HBW HO1 HO2 HO3 f0 c1 cp
  generalize w4.heap.size = bd at *
  generalize w2.heap.size = n3 at *
  generalize hbc : w.heap.size = bc at *
  obtain ⟨bx, by'⟩ := box_rules HI.out.boxd
  have hbn : bc < n3 := lw2
  have hwn : w.heap.size ≤ n3 := by omega
  go_cut [17, 43] (fun s b wx => s = .pointer (some ⟨bd, 0, none⟩) ∧ b = .bool (decide (more o ts.length ∧ o ≠ n)) ∧ MoI mn mx sw ts.length ls.length hs.length bc bd n3 A ca B cb D cd A2 c2 B2 d2 D2 e2 w ts ls hs wx)
  case first =>
    by_cases g1 : o < 0
    · have hd : decide (more o ts.length ∧ o ≠ n) = false := decide_eq_false (fun h => by have := h.1; unfold more at this; omega)
      go_wp2
      go_meet
      exact ⟨rfl, congrArg Value.bool hd.symm, HI.out⟩
    · have g1' : 0 ≤ o := by omega
      by_cases g2 : o < ts.length
      · by_cases g3 : o = n
        · have hd : decide (more o ts.length ∧ o ≠ n) = false := decide_eq_false (fun h => h.2 g3)
          subst g3
          go_wp2
          go_meet
          exact ⟨rfl, congrArg Value.bool hd.symm, HI.out⟩
        · have hd : decide (more o ts.length ∧ o ≠ n) = true := decide_eq_true ⟨⟨g1', g2⟩, g3⟩
          have g3' : (o != n) = true := by simpa using g3
          go_wp2
          go_meet
          exact ⟨rfl, congrArg Value.bool hd.symm, HI.out⟩
      · have hd : decide (more o ts.length ∧ o ≠ n) = false := decide_eq_false (fun h => by have := h.1; unfold more at this; omega)
        go_wp2
        go_meet
        exact ⟨rfl, congrArg Value.bool hd.symm, HI.out⟩
  case rest =>
  obtain ⟨rfl, rfl, hI⟩ := hcut
  have HI := Lib.hid hI
  clear hI bx by'
  go_upto_if 43 with fail
  go_cut [17] (fun s wx => s = .pointer (some ⟨bd, 0, none⟩) ∧ MoI mn mx sw ts.length ls.length hs.length bc bd n3 A ca B cb D cd A2 c2 B2 d2 D2 e2 w (moreT ts n o a1) ls hs wx)
  case first =>
    by_cases hm : more o ts.length ∧ o ≠ n
    · have hd : decide (more o ts.length ∧ o ≠ n) = true := decide_eq_true hm
      have hMT : moreT ts n o a1 = ts.set o.toNat { ts.getD o.toNat tk0 with cost := wrap64 ((ts.getD o.toNat tk0).cost + lift a1) } := if_pos hm
      obtain ⟨m, rfl⟩ := Int.eq_ofNat_of_zero_le hm.1.1
      have hlt : m < ts.length := by have := hm.1.2; omega
      obtain ⟨a, x, rfl, hx, ⟨-, -, -, -⟩, -, q5, -, -, -, -⟩ := (own_rdK HI.out.o1).tkAt hlt
      have fz := own_froz HI.out.o1 (m * 10) 5
      obtain ⟨bx, by'⟩ := box_rules HI.out.boxd
      rw [Int.toNat_natCast, hx] at hMT
      have fin := Lib.hid (fun (v : Int) (hv : v = wrap64 (x.cost + lift a1)) => (show MoI mn mx sw ts.length ls.length hs.length bc bd n3 A ca B cb D cd (some a) c2 B2 d2 D2 e2 w (moreT ts n (m : Int) a1) ls hs (wc.setCell ⟨(a.add (m * 10)).block, (a.add (m * 10)).off + 5, none⟩ (.int .i64 v)) by rw [hMT, ← hv]; exact HI.out.putT hbn hwn hlt hx))
      clear hMT hx
      go_wp2
      all_goals (go_meet; refine ⟨rfl, fin.out _ ?_⟩; first | rw [show lift a1 = a1 by unfold lift; omega] | rw [show lift a1 = 0 by unfold lift; omega, Int.add_zero] | rw [show lift a1 = 1099511627776 by unfold lift; omega])
    · have hd : decide (more o ts.length ∧ o ≠ n) = false := decide_eq_false hm
      have hMT : moreT ts n o a1 = ts := if_neg hm
      go_wp2
      go_meet
      rw [hMT]
      exact ⟨rfl, HI.out⟩
  case rest =>
  obtain ⟨rfl, hI⟩ := hcut
  have HI := Lib.hid hI
  clear hI
  go_upto_region 7 with fail
  obtain ⟨bx, by'⟩ := box_rules HI.out.boxd
  go_cut [17, 64] (fun s b wx => s = .pointer (some ⟨bd, 0, none⟩) ∧ b = .bool (decide (more o hs.length)) ∧ MoI mn mx sw ts.length ls.length hs.length bc bd n3 A ca B cb D cd A2 c2 B2 d2 D2 e2 w (moreT ts n o a1) ls hs wx)
  case first =>
    by_cases g1 : o < 0
    · have hd : decide (more o hs.length) = false := decide_eq_false (fun h => by unfold more at h; omega)
      go_wp2
      go_meet
      exact ⟨rfl, congrArg Value.bool hd.symm, HI.out⟩
    · have g1' : 0 ≤ o := by omega
      by_cases g2 : o < hs.length
      · have hd : decide (more o hs.length) = true := decide_eq_true ⟨g1', g2⟩
        go_wp2
        go_meet
        exact ⟨rfl, congrArg Value.bool hd.symm, HI.out⟩
      · have hd : decide (more o hs.length) = false := decide_eq_false (fun h => by unfold more at h; omega)
        go_wp2
        go_meet
        exact ⟨rfl, congrArg Value.bool hd.symm, HI.out⟩
  case rest =>
  obtain ⟨rfl, rfl, hI⟩ := hcut
  have HI := Lib.hid hI
  clear hI bx by'
  go_upto_if 64 with fail
  go_cut [17] (fun s wx => s = .pointer (some ⟨bd, 0, none⟩) ∧ MoI mn mx sw ts.length ls.length hs.length bc bd n3 A ca B cb D cd A2 c2 B2 d2 D2 e2 w (moreT ts n o a1) ls (moreH hs o a2) wx)
  case first =>
    by_cases hm : more o hs.length
    · have hd : decide (more o hs.length) = true := decide_eq_true hm
      have hMT : moreH hs o a2 = hs.set o.toNat { hs.getD o.toNat ⟨0, 0, 0, 0⟩ with budget := wrap64 ((hs.getD o.toNat ⟨0, 0, 0, 0⟩).budget + lift a2) } := if_pos hm
      obtain ⟨m, rfl⟩ := Int.eq_ofNat_of_zero_le hm.1
      have hlt : m < hs.length := by have := hm.2; omega
      obtain ⟨a, x, rfl, hx, q0, q1, q2, q3⟩ := (own_rdK HI.out.o3).thAt hlt
      have fz := own_froz HI.out.o3 (m * 4) 1
      obtain ⟨bx, by'⟩ := box_rules HI.out.boxd
      rw [Int.toNat_natCast, hx] at hMT
      have fin := Lib.hid (fun (v : Int) (hv : v = wrap64 (x.budget + lift a2)) => (show MoI mn mx sw ts.length ls.length hs.length bc bd n3 A ca B cb D cd A2 c2 B2 d2 (some a) e2 w (moreT ts n (m : Int) a1) ls (moreH hs (m : Int) a2) (wc.setCell ⟨(a.add (m * 4)).block, (a.add (m * 4)).off + 1, none⟩ (.int .i64 v)) by rw [hMT, ← hv]; exact HI.out.putH hbn hwn hlt hx))
      clear hMT hx
      go_wp2
      all_goals (go_meet; refine ⟨rfl, fin.out _ ?_⟩; first | rw [show lift a2 = a2 by unfold lift; omega] | rw [show lift a2 = 0 by unfold lift; omega, Int.add_zero] | rw [show lift a2 = 1099511627776 by unfold lift; omega])
    · have hd : decide (more o hs.length) = false := decide_eq_false hm
      have hMT : moreH hs o a2 = hs := if_neg hm
      go_wp2
      go_meet
      rw [hMT]
      exact ⟨rfl, HI.out⟩
  case rest =>
  obtain ⟨rfl, hI⟩ := hcut
  have HI := Lib.hid hI
  clear hI
  go_upto_region 9 with fail
  obtain ⟨bx, by'⟩ := box_rules HI.out.boxd
  go_cut [17, 85] (fun s b wx => s = .pointer (some ⟨bd, 0, none⟩) ∧ b = .bool (decide (more o ls.length)) ∧ MoI mn mx sw ts.length ls.length hs.length bc bd n3 A ca B cb D cd A2 c2 B2 d2 D2 e2 w (moreT ts n o a1) ls (moreH hs o a2) wx)
  case first =>
    by_cases g1 : o < 0
    · have hd : decide (more o ls.length) = false := decide_eq_false (fun h => by unfold more at h; omega)
      go_wp2
      go_meet
      exact ⟨rfl, congrArg Value.bool hd.symm, HI.out⟩
    · have g1' : 0 ≤ o := by omega
      by_cases g2 : o < ls.length
      · have hd : decide (more o ls.length) = true := decide_eq_true ⟨g1', g2⟩
        go_wp2
        go_meet
        exact ⟨rfl, congrArg Value.bool hd.symm, HI.out⟩
      · have hd : decide (more o ls.length) = false := decide_eq_false (fun h => by unfold more at h; omega)
        go_wp2
        go_meet
        exact ⟨rfl, congrArg Value.bool hd.symm, HI.out⟩
  case rest =>
  obtain ⟨rfl, rfl, hI⟩ := hcut
  have HI := Lib.hid hI
  clear hI bx by'
  go_upto_if 85 with fail
  go_cut [17] (fun s wx => s = .pointer (some ⟨bd, 0, none⟩) ∧ MoI mn mx sw ts.length ls.length hs.length bc bd n3 A ca B cb D cd A2 c2 B2 d2 D2 e2 w (moreT ts n o a1) (moreL ls o a3) (moreH hs o a2) wx)
  case first =>
    by_cases hm : more o ls.length
    · have hd : decide (more o ls.length) = true := decide_eq_true hm
      have hMT : moreL ls o a3 = ls.set o.toNat { ls.getD o.toNat ⟨0, 0, 0, 0⟩ with top := wrap64 ((ls.getD o.toNat ⟨0, 0, 0, 0⟩).top + lift a3) } := if_pos hm
      obtain ⟨m, rfl⟩ := Int.eq_ofNat_of_zero_le hm.1
      have hlt : m < ls.length := by have := hm.2; omega
      obtain ⟨a, x, rfl, hx, q0, q1, q2, q3⟩ := (own_rdK HI.out.o2).lnAt hlt
      have fz := own_froz HI.out.o2 (m * 4) 1
      obtain ⟨bx, by'⟩ := box_rules HI.out.boxd
      rw [Int.toNat_natCast, hx] at hMT
      have fin := Lib.hid (fun (v : Int) (hv : v = wrap64 (x.top + lift a3)) => (show MoI mn mx sw ts.length ls.length hs.length bc bd n3 A ca B cb D cd A2 c2 (some a) d2 D2 e2 w (moreT ts n (m : Int) a1) (moreL ls (m : Int) a3) (moreH hs (m : Int) a2) (wc.setCell ⟨(a.add (m * 4)).block, (a.add (m * 4)).off + 1, none⟩ (.int .i64 v)) by rw [hMT, ← hv]; exact HI.out.putL hbn hwn hlt hx))
      clear hMT hx
      go_wp2
      all_goals (go_meet; refine ⟨rfl, fin.out _ ?_⟩; first | rw [show lift a3 = a3 by unfold lift; omega] | rw [show lift a3 = 0 by unfold lift; omega, Int.add_zero] | rw [show lift a3 = 1099511627776 by unfold lift; omega])
    · have hd : decide (more o ls.length) = false := decide_eq_false hm
      have hMT : moreL ls o a3 = ls := if_neg hm
      go_wp2
      go_meet
      rw [hMT]
      exact ⟨rfl, HI.out⟩
  case rest =>
  obtain ⟨rfl, hI⟩ := hcut
  have HI := Lib.hid hI
  clear hI
  have lbc : bc < n3 := hbn
  have Hbd := Lib.hid (own_apart_box HI.out.o1 HI.out.boxd (by decide))
  go_upto_region 11 with fail
  go_cut [17] (fun s wx => s = .pointer (some ⟨bd, 0, none⟩) ∧ wx.heap[bc]? = some (.cells #[.int .i64 mn, .int .i64 mx, .int .i64 sw, .slice A ts.length ca, .slice B ls.length cb, .slice D hs.length cd] 28 (0, 0)) ∧
    wx.heap[bd]? = some (.cells #[.int .i64 mn, .int .i64 mx, .int .i64 (wrap64 (sw + lift a4)), .slice A2 ts.length c2, .slice B2 ls.length d2, .slice D2 hs.length e2] 28 (0, 0)) ∧
    Rd wx A2 ((moreT ts n o a1).flatMap tkc) ∧ Rd wx B2 ((moreL ls o a3).flatMap lnc) ∧ Rd wx D2 ((moreH hs o a2).flatMap thc) ∧ Below w.heap.size w wx)
  case first =>
    obtain ⟨bx, by'⟩ := box_rules HI.out.boxd
    have fin := Lib.hid (fun (v : Int) (hv : v = wrap64 (sw + lift a4)) => (show (wc.setCell ⟨bd, 2, none⟩ (.int .i64 v)).heap[bc]? = some (.cells #[.int .i64 mn, .int .i64 mx, .int .i64 sw, .slice A ts.length ca, .slice B ls.length cb, .slice D hs.length cd] 28 (0, 0)) ∧
      (wc.setCell ⟨bd, 2, none⟩ (.int .i64 v)).heap[bd]? = some (.cells #[.int .i64 mn, .int .i64 mx, .int .i64 (wrap64 (sw + lift a4)), .slice A2 ts.length c2, .slice B2 ls.length d2, .slice D2 hs.length e2] 28 (0, 0)) ∧
      Rd (wc.setCell ⟨bd, 2, none⟩ (.int .i64 v)) A2 ((moreT ts n o a1).flatMap tkc) ∧ Rd (wc.setCell ⟨bd, 2, none⟩ (.int .i64 v)) B2 ((moreL ls o a3).flatMap lnc) ∧ Rd (wc.setCell ⟨bd, 2, none⟩ (.int .i64 v)) D2 ((moreH hs o a2).flatMap thc) ∧ Below w.heap.size w (wc.setCell ⟨bd, 2, none⟩ (.int .i64 v)) by
      subst hv
      exact ⟨box_far HI.out.boxc (p := ⟨bd, 2, none⟩) (by show bc ≠ bd; omega) _, box_set (i := 2) HI.out.boxd _,
        own_rdK (own_setK HI.out.o1 (p := ⟨bd, 2, none⟩) (own_apart_box HI.out.o1 HI.out.boxd (by decide)) _),
        own_rdK (own_setK HI.out.o2 (p := ⟨bd, 2, none⟩) (own_apart_box HI.out.o2 HI.out.boxd (by decide)) _),
        own_rdK (own_setK HI.out.o3 (p := ⟨bd, 2, none⟩) (own_apart_box HI.out.o3 HI.out.boxd (by decide)) _),
        HI.out.low.setCell (p := ⟨bd, 2, none⟩) (by show _ ≤ bd; omega) _⟩))
    go_wp2
    all_goals (go_meet; refine ⟨rfl, fin.out _ ?_⟩; first | rw [show lift a4 = a4 by unfold lift; omega] | rw [show lift a4 = 0 by unfold lift; omega, Int.add_zero] | rw [show lift a4 = 1099511627776 by unfold lift; omega])
  case rest =>
  obtain ⟨rfl, hC, hD, hr1, hr2, hr3, hB⟩ := hcut
  have HC := Lib.hid hC; have HD := Lib.hid hD; have HR1 := Lib.hid hr1; have HR2 := Lib.hid hr2; have HR3 := Lib.hid hr3; have HB := Lib.hid hB
  clear hC hD hr1 hr2 hr3 hB HI Hbd
  generalize moreT ts n o a1 = T2 at *
  generalize moreL ls o a3 = L2 at *
  generalize moreH hs o a2 = H2 at *
  generalize wrap64 (sw + lift a4) = sw2 at *
  obtain ⟨cx, cy⟩ := box_rules HC.out
  obtain ⟨dx, dy⟩ := box_rules HD.out
  go_wp2_with fail
  refine (c0.out _ (Ht.out.below HB.out) (Hl.out.below HB.out) (Hh.out.below HB.out)).mono ?_
  rintro e w5 ⟨rfl, hb⟩
  have HB5 := Lib.hid (HB.out.trans (hb.mono HB.out.size))
  have HD5 := Lib.hid (box_keep HD.out hb)
  have G1 := Lib.hid (HR1.out.below hb); have G2 := Lib.hid (HR2.out.below hb); have G3 := Lib.hid (HR3.out.below hb)
  clear hb cx cy dx dy c0 HC HD HR1 HR2 HR3 HB Ht Hl Hh
  obtain ⟨dx, dy⟩ := box_rules HD5.out
  by_cases hy : y = 0
  · subst hy
    have hy1 : ((0 : Int) != 0) = false := by decide
    go_wp2_with fail
    refine (k0.out _ _ _ _ _ _ _ G1.out G2.out G3.out).mono ?_
    rintro e w6 ⟨rfl, hb⟩
    have HB6 := Lib.hid (HB5.out.trans (hb.mono HB5.out.size))
    have HD6 := Lib.hid (box_keep HD5.out hb)
    have E1 := Lib.hid (G1.out.below hb); have E2 := Lib.hid (G2.out.below hb); have E3 := Lib.hid (G3.out.below hb)
    clear hb dx dy k0 HD5 G1 G2 G3 HB5
    obtain ⟨dx, dy⟩ := box_rules HD6.out
    by_cases hy2 : y2 = 0
    · subst hy2
      go_wp2_with fail
      refine (k1.out _ _ _ _ _ _ _ E1.out E2.out E3.out).mono ?_
      rintro e w7 ⟨rfl, hb⟩
      have HB7 := Lib.hid (HB6.out.trans (hb.mono HB6.out.size))
      clear hb dx dy k1 HD6 E1 E2 E3 HB6
      by_cases hz : Z = 0
      · subst hz
        by_cases hz2 : Z2 = 0
        · subst hz2
          have hf := HFin.out (by trivial) (by trivial) (by trivial) (by trivial)
          go_wp2
          go_ret
          exact ⟨rfl, HB7.out⟩
        · have hz3 : (Z2 != 0) = true := by simpa using hz2
          go_wp2
          go_ret
          exact ⟨rfl, HB7.out⟩
      · have hz3 : (Z != 0) = true := by simpa using hz
        go_wp2
        go_ret
        exact ⟨rfl, HB7.out⟩
    · have hy3 : (y2 != 0) = true := by simpa using hy2
      go_wp2
      go_ret
      exact ⟨rfl, HB6.out⟩
  · have hy1 : (y != 0) = true := by simpa using hy
    go_wp2
    go_ret
    exact ⟨rfl, HB5.out⟩
end Go.Proofs.Ytpdanmdpaanafaa

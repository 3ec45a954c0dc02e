/- Package wheel: the walk of told. Conditions: a wheel's memory. -/
import Derived.Test.YtiblpnadninmbaaDoorMvP
import Derived.Test.YtiblpnadninmbaaDoorRhC
namespace Go.Proofs.YtiblpnadninmbaaDoor
open Go.RowKit Go.Shelf
attribute [local go_sem] Oper.semAt_some
theorem skc_tm : SlK Tryd.prog 112 140 3 24 := SlK.mk' (z := .agg #[.int .i64 0, .int .i64 0, .int .i64 0]) Tryd.underlying112 (by kernel_rfl) rfl (by decide)
theorem Tn.new {F F' : List Nat} {w w1 w2 : World} (h : Tn F w w1) (k : Tn F' w1 w2) (hF : ∀ b ∈ F', w.heap.size ≤ b) : Tn F w w2 :=
  ⟨k.os.trans h.os, k.tape.trans h.tape, k.output.trans h.output, Nat.le_trans h.size k.size, fun i hi hf => (k.block i (Nat.lt_of_lt_of_le hi h.size) (fun e => by have := hF i e; omega)).trans (h.block i hi hf)⟩
/-- A row of timers, none too, is sorted in its place. -/
theorem tsort_all {w : World} {base cap : Nat} {P : Option Addr} {ts : List Tm} (hn : ts.length ≤ 4096) (ho : w.ownsRow base 140 3 (.slice P ts.length cap) ts.length (ts.flatMap tmc)) :
    Calls Tryd.prog 95 #[.slice P ts.length cap, .func (.func 77) #[] #[]] w fun e w' =>
      e = .returned (.tuple #[]) ∧ ∃ zs : List Tm, zs.Perm ts ∧ zs.Pairwise (fun x y => ¬ befF y x < 0) ∧ w'.ownsRow base 140 3 (.slice P ts.length cap) ts.length (zs.flatMap tmc) ∧ ∃ F : List Nat, (∀ b ∈ F, base ≤ b) ∧ Tn F w w' := by
  letI : Inhabited Tm := ⟨tm0⟩
  rcases ho.2 with ⟨h1, h2⟩ | ⟨g, cp, cur, h1, hg, _⟩
  · have hnil : ts = [] := List.eq_nil_of_length_eq_zero h2
    subst hnil
    refine (Tryd.slices_SortFunc_none (α := Tm) P cap (.func (.func 77) #[] #[]) w).mono ?_
    rintro e w' ⟨rfl, rfl⟩
    exact ⟨rfl, [], .refl _, List.Pairwise.nil, ho, [], by simp, Tn.refl _ _⟩
  · injection h1 with h1 _ _
    subst h1
    refine (tsort_any hn ho).mono ?_
    rintro e w' ⟨rfl, zs, z1, z2, z3, z4⟩
    exact ⟨rfl, zs, z1, z2, z3, [g], fun b hb => by simp at hb; omega, z4⟩
section
variable {room : Nat} {E : List Ent} {s : WhS}
/-- Where told stands, k of those that are due dropped. -/
structure ToI (room : Nat) (E : List Ent) (s : WhS) (k : Nat) (Ek : List Ent) (sk : WhS) : Prop where
  wi : WI room Ek sk
  now : sk.now = s.now
  turns : sk.turns = s.turns
  ts : sk.ts = s.ts
  ls : sk.ls 257 = (s.ls 257).drop k
  ent : Ek = E.filter fun e => decide (e.i ∉ (s.ls 257).take k)
theorem ToI.start (h : WI room E s) : ToI room E s 0 E s :=
  ⟨h, rfl, rfl, rfl, rfl, (List.filter_eq_self.2 (fun e _ => by simp)).symm⟩
theorem ToI.step {k i : Nat} {Ek : List Ent} {sk : WhS} (h : ToI room E s k Ek sk) (hn : (s.ls 257).Nodup) (hk : k < (s.ls 257).length) (hi : (s.ls 257).getD k 0 = i) :
    ToI room E s (k + 1) (Ek.filter fun e => decide (e.i ≠ i)) (outS sk 257 i [] ((s.ls 257).drop (k + 1))) ∧ sk.ls 257 = [] ++ i :: (s.ls 257).drop (k + 1) ∧ I64N (sk.ts.getD i tm0).id ∧ (sk.M (sk.ts.getD i tm0).id).isSome = true := by
  have hls : sk.ls 257 = [] ++ i :: (s.ls 257).drop (k + 1) := by rw [h.ls, drop_atN (d := 0) hk, hi]; rfl
  obtain ⟨e, he, h1, h2, h3⟩ := h.wi.ent (k := 257) (i := i) (by rw [hls]; simp)
  have hnd : (sk.ls 257).Nodup := by rw [h.ls]; exact hn.sublist (List.drop_sublist _ _)
  have hr := h.wi.remove (k := 257) (a := []) (b := (s.ls 257).drop (k + 1)) he h2 (by rw [h1]; exact hls) hnd
  rw [h1, show noteS (outS sk 257 i [] ((s.ls 257).drop (k + 1))) 257 = outS sk 257 i [] ((s.ls 257).drop (k + 1)) from if_neg (by omega)] at hr
  have e1 : Ek.filter (fun x => decide (x.id ≠ e.id)) = Ek.filter fun x => decide (x.i ≠ i) := List.filter_congr fun x hx => by
    rw [decide_eq_decide]
    constructor
    · intro h9 h8; exact h9 (by rw [h.wi.inj hx he (by omega)])
    · intro h9 h8; exact h9 (by rw [h.wi.idInj hx he h8]; exact h1)
  rw [e1] at hr
  refine ⟨⟨hr, h.now, h.turns, h.ts, ?_, ?_⟩, hls, by rw [h3]; exact h.wi.idr e he, by rw [h3, (h.wi.M e.id e.i).2 ⟨e, he, rfl, rfl⟩]; rfl⟩
  · show upL sk.ls 257 ([] ++ (s.ls 257).drop (k + 1)) 257 = _
    rw [upL_eq]; rfl
  · rw [h.ent, List.filter_filter]
    refine List.filter_congr fun x _ => ?_
    rw [take_atN (d := 0) hk, hi]
    simp only [List.mem_append, List.mem_singleton, not_or, Bool.decide_and, Bool.and_comm, ne_eq]
end
theorem own_tn {w w' : World} {base n k : Nat} {e : TypeId} {v : Value} {vs : List Value} {F : List Nat} (h : w.ownsRow base e k v n vs) (ht : Tn F w w') (hF : ∀ b ∈ F, b < base) : w'.ownsRow base e k v n vs :=
  own_keptK h fun g hg => ht.block g (own_blockK h hg).2.1 (fun hm => by have := hF g hm; have := (own_blockK h hg).1; omega)
theorem app_tn {w w' : World} {base n k : Nat} {e : TypeId} {v : Value} {vs : List Value} (h : w.ownsRow base e k v n vs) (hg : w.grownBy w' v.ownBlock) : ∃ F : List Nat, (∀ b ∈ F, base ≤ b) ∧ Tn F w w' :=
  ⟨v.ownBlock.toList, fun b hb => (own_blockK h (by simpa using hb)).1, (Tn.refl _ _).grown hg (fun k e => .inl (by simp [e]))⟩
theorem Rd.tmAt {w : World} {A : Option Addr} {ts : List Tm} (h : Rd w A (ts.flatMap tmc)) {k : Nat} (hk : k < ts.length) : ∃ a x, A = some a ∧ ts.getD k tm0 = x ∧
    w.cell? (a.add (k * 3)) = some (.int .i64 x.id) ∧ w.cell? ⟨(a.add (k * 3)).block, (a.add (k * 3)).off + 1, none⟩ = some (.int .i64 x.at') ∧ w.cell? ⟨(a.add (k * 3)).block, (a.add (k * 3)).off + 2, none⟩ = some (.int .i64 x.turn) := by
  have g := flat_get (f := tmc) (k := 3) (fun _ => rfl) tm0 ts k hk
  generalize ts.getD k tm0 = x at *
  obtain ⟨a, rfl, h0⟩ := h _ _ (g 0 (by omega))
  obtain ⟨_, ha1, h1⟩ := h _ _ (g 1 (by omega)); cases ha1
  obtain ⟨_, ha2, h2⟩ := h _ _ (g 2 (by omega)); cases ha2
  refine ⟨a, x, rfl, rfl, h0, ?_, ?_⟩
  · rw [← add_plus2 a (k * 3) 1 (by omega)]; exact h1
  · rw [← add_plus2 a (k * 3) 2 (by omega)]; exact h2
def tmsOf (s : WhS) (l : List Nat) : List Tm := l.map fun i => s.ts.getD i tm0
def duT (x : Tm) : Du := ⟨x.id, x.at'⟩
theorem tms_len (s : WhS) (l : List Nat) : (tmsOf s l).length = l.length := by unfold tmsOf; simp
theorem tms_snoc (s : WhS) (l : List Nat) (i : Nat) : tmsOf s (l ++ [i]) = tmsOf s l ++ [s.ts.getD i tm0] := by unfold tmsOf; rw [List.map_append]; rfl
def SrtT (zs : List Tm) : Prop := zs.Pairwise fun x y => ¬ befF y x < 0
/-- What told hands back. -/
def RetTo (f : WhF) (room : Nat) (now : Int) (L : List Du) (tn : Nat) (w : World) (e : Ending) (w' : World) : Prop :=
  ∃ A c, e = .returned (.slice A (mvD now L).length c) ∧ Rd w' A ((mvD now L).flatMap duc) ∧ (∀ a, A = some a → w.heap.size ≤ a.block) ∧ Whl w' f room now (rsD now L) tn ∧ Tn f.l w w'
set_option maxHeartbeats 4000000 in
set_option maxRecDepth 100000 in
theorem told_any (f : WhF) (room : Nat) (now : Int) (L : List Du) (tn : Nat) (w : World) (h : Whl w f room now L tn) :
    Calls Tryd.prog 74 #[.pointer (some ⟨f.pw, 0, none⟩)] w (RetTo f room now L tn w) := by
  obtain ⟨E, s, h1, h2, hnow, t0, t1, hL⟩ := h
  obtain ⟨hnd, hin, hlen⟩ := h1.nd (k := 257) (by omega)
  have hrm := h2.rm
  have hlen2 : (s.ls 257).length ≤ 4096 := by omega
  have f1 : Hid (∀ X, Tn [] w X → Calls Tryd.prog 94 #[.pointer (some ⟨f.pp, 0, none⟩), .int .i64 257] X (RetLs (s.ls 257) X)) := Lib.hid (fun X hX => list_any 257 f.pp f.bl f.be room 258 s.pile s.ls X (h1.tn hX (fun _ _ => by simp)).pool (by omega) hlen2)
  unfold RetLs at f1
  have H := Lib.hid h1; have H2 := Lib.hid h2
  have HNd := Lib.hid hnd; have HIn := Lib.hid hin
  have HFl := Lib.hid h1.lt
  have HS0 := Lib.hid (ToI.start h2)
  have HT : Hid (∀ zs : List Tm, zs.Perm (tmsOf s (s.ls 257)) → SrtT zs → zs.map duT = mvD now L) := Lib.hid (fun zs g1 g2 => by
    have := h2.told hnd g1 g2
    rwa [hnow, hL] at this)
  have HR : Hid ((E.filter fun e => decide (e.i ∉ s.ls 257)).map duOf = rsD now L) := Lib.hid (by
    have := h2.stays
    rwa [hnow, hL] at this)
  have Hnow := Lib.hid hnow
  have HTu := Lib.hid (show 0 ≤ s.turns ∧ s.turns ≤ tn from ⟨t0, t1⟩)
  obtain ⟨xx, xy⟩ := box_rules (h1).box
  have xz := (box_rules (h1).tm).2
  have lx := box_lt (h1).box
  clear h1 h2 hnow t0 t1 hL hnd hin
  go_enter Tryd.func74, Tryd.ntmps74
  go_upto_region 3 with (go_at_call 94; go_loud (refine (f1.out _ (Tn.refl _ _)).mono ?_; rintro e w1 ⟨A, c, rfl, hrd, hnew, hb1⟩; have HRd := Lib.hid hrd; have HNw := Lib.hid hnew; have HB1 := Lib.hid hb1; clear hrd hnew hb1))
  clear f1 xx xy xz lx
  have HA : Hid (∀ a, A = some a → a.block ∉ f.l) := Lib.hid (fun a ha hm => by
    have h1 := HNw.out a ha
    have h2 := HFl.out _ hm
    omega)
  have HF1 : Hid (∀ b ∈ f.l, b < w1.heap.size) := Lib.hid (fun b hb => Nat.lt_of_lt_of_le (HFl.out b hb) HB1.out.size)
  have HM1 := Lib.hid (H.out.below HB1.out)
  have HT1 : Hid (Tn f.l w w1) := Lib.hid (Tn.of_below _ HB1.out)
  go_loopw [3, 15] (fun o ix wr => ∃ (k : Nat) (Ek : List Ent) (sk : WhS) (P : Option Addr) (cp : Nat), k ≤ (s.ls 257).length ∧ ix = .int .i64 k ∧ o = .slice P k cp ∧ Hid (ToI room E s k Ek sk) ∧ Hid (WhM wr f room sk) ∧
    Hid (wr.ownsRow w1.heap.size 140 3 (.slice P k cp) k ((tmsOf s ((s.ls 257).take k)).flatMap tmc)) ∧ Hid (Tn f.l w1 wr)) (fun _ ix _ => (s.ls 257).length - (intOf ix).toNat)
  case atStart => exact ⟨0, E, s, none, 0, by omega, rfl, rfl, HS0, HM1, Lib.hid (own_nilK _ _ _ _), Lib.hid (Tn.refl _ _)⟩
  case round =>
    obtain ⟨k, Ek, sk, P, cp, hk, rfl, rfl, HSj, HMj, HOj, HTj⟩ := hrel
    clear HS0 HM1
    by_cases hlt : k < (s.ls 257).length
    · obtain ⟨a, rfl, hc⟩ := rdN (HRd.out.tn HTj.out HA.out) hlt
      obtain ⟨i, hi⟩ : ∃ i, (s.ls 257).getD k 0 = i := ⟨_, rfl⟩
      rw [hi] at hc
      have him : i ∈ s.ls 257 := by rw [← hi]; exact getD_memN hlt
      have hir := HIn.out i him
      have HTk : Hid (tmsOf s ((s.ls 257).take (k + 1)) = tmsOf s ((s.ls 257).take k) ++ [s.ts.getD i tm0]) := Lib.hid (by rw [take_atN (d := 0) hlt, hi, tms_snoc])
      obtain ⟨q1, q2, q3, q4⟩ := HSj.out.step HNd.out hlt hi
      have HSt := Lib.hid q1
      have f3 := Lib.hid (fun X (hX : WhM X f room sk) => drop_any f room sk X 257 i [] _ hX HSj.out.wi.fbl HSj.out.wi.rm (by omega) q2 hir q3 q4)
      rw [show noteS (outS sk 257 i [] ((s.ls 257).drop (k + 1))) 257 = outS sk 257 i [] ((s.ls 257).drop (k + 1)) from if_neg (by omega)] at f3
      obtain ⟨x, hx, x1, x2, x3⟩ := HMj.out.tmAt hir
      have hx' : s.ts.getD i tm0 = x := by rw [← HSj.out.ts]; exact hx
      rw [hx'] at HTk
      obtain ⟨xx, xy⟩ := box_rules (HMj.out).box
      have xz := (box_rules (HMj.out).tm).2
      have lx := box_lt (HMj.out).box
      have HLs := Lib.hid HTj.out.size
      generalize outS sk 257 i [] ((s.ls 257).drop (k + 1)) = S' at *
      clear hi him hx hx' q1 q2 q3 q4
      obtain ⟨y0, y1, y2⟩ := x
      dsimp only at *
      go_upto_region 6 with (at_builtin; go_loud (refine wp_appK rfl _ _ skc_tm (by decide) rfl (own_allocK HOj.out _) rfl (by omega) (by have := HLs.out; simp; omega) wr.heap.size [.int .i64 y0, .int .i64 y1, .int .i64 y2] rfl rfl (fun j u hu => new_cell hu) rfl ?_); intro P4 c4 w4 ho4 hg4 hat4; obtain ⟨F4, hF4, hT4⟩ := app_tn (own_allocK HOj.out _) hg4; have HT4 : Hid (Tn f.l w1 w4) := Lib.hid ((HTj.out.alloc _).new hT4 hF4); have HM4 : Hid (WhM w4 f room sk) := Lib.hid (((HMj.out.below ((Below.refl _ _).alloc (Nat.le_refl _) _))).tn hT4 (fun b hb hm => by have := hF4 b hm; have := HF1.out b hb; omega)); have HO4 := Lib.hid ho4; clear ho4 hg4 hat4 hT4 hF4)
      clear xx xy xz lx hc x1 x2 x3
      go_wp2_with (go_at_call 73; (with_reducible refine (f3.out _ HM4.out).mono ?_); rintro e w5 ⟨rfl, hm5, ht5⟩; have HM5 := Lib.hid hm5; have HT5 := Lib.hid (HT4.out.trans ht5); have HO5 := Lib.hid (own_tn HO4.out ht5 HF1.out); clear hm5 ht5)
      refine ⟨⟨k + 1, _, S', P4, c4, hlt, by go_num, rfl, HSt, HM5, Lib.hid ?_, HT5⟩, ?_⟩
      · rw [HTk.out, List.flatMap_append]; exact HO5.out
      · simp [intOf]; omega
    · obtain rfl : k = (s.ls 257).length := by omega
      have HTs : Hid (wr.ownsRow w1.heap.size 140 3 (.slice P (tmsOf s (s.ls 257)).length cp) (tmsOf s (s.ls 257)).length ((tmsOf s (s.ls 257)).flatMap tmc)) := Lib.hid (by
        have h9 := HOj.out
        rw [List.take_length] at h9
        rw [tms_len]; exact h9)
      have fS := Lib.hid (tsort_all (by rw [tms_len]; exact hlen2) HTs.out)
      rw [tms_len] at fS
      have HWh : Hid (∀ X, WhM X f room sk → Whl X f room now (rsD now L) tn) := Lib.hid (fun X hX => ⟨Ek, sk, hX, HSj.out.wi, HSj.out.now.trans Hnow.out, by rw [HSj.out.turns]; exact HTu.out.1, by rw [HSj.out.turns]; exact HTu.out.2, by
        rw [HSj.out.ent, List.take_length]; exact HR.out⟩)
      clear HTs HOj hlt
      go_upto_region 9 with (go_at_call 95; go_loud ((with_reducible refine fS.out.mono ?_); rintro e w5 ⟨rfl, zs, z1, z2, z3, F5, hF5, hT5⟩; have HZ1 := Lib.hid z1; have HZm := Lib.hid (HT.out zs z1 z2); have HZ3 := Lib.hid z3; have HF5 := Lib.hid hF5; have HT5 := Lib.hid hT5; clear z1 z2 z3 hF5 hT5))
      have HW5 : Hid (Whl w5 f room now (rsD now L) tn) := Lib.hid (HWh.out _ (HMj.out.tn HT5.out (fun b hb hm => by have := HF5.out b hm; have := HF1.out b hb; omega)))
      have HTw : Hid (Tn f.l w w5) := Lib.hid ((HT1.out.trans HTj.out).new HT5.out (fun b hb => by have := HF5.out b hb; have := HB1.out.size; omega))
      have HRz := Lib.hid (own_rdK HZ3.out)
      have hzl : zs.length = (s.ls 257).length := by rw [HZ1.out.length_eq, tms_len]
      rw [← hzl]
      have hz4 : zs.length ≤ 4096 := by omega
      clear hzl fS HWh HMj HTj HT5 HF5 HZ3 HZ1 hlen2 hk
      go_wp2
      go_loopw [6, 37] (fun o ix wr => ∃ (k : Nat) (B : Option Addr) (cb : Nat), k ≤ zs.length ∧ ix = .int .i64 k ∧ o = .slice B k cb ∧ Hid (wr.ownsRow w5.heap.size 98 2 (.slice B k cb) k (((zs.take k).map duT).flatMap duc)) ∧ Hid (Below w5.heap.size w5 wr)) (fun _ ix _ => zs.length - (intOf ix).toNat)
      case atStart => exact ⟨0, none, 0, by omega, rfl, rfl, Lib.hid (own_nilK _ _ _ _), Lib.hid (Below.refl _ _)⟩
      case round =>
        obtain ⟨k, B, cb, hk, rfl, rfl, HOb, HBb⟩ := hrel
        by_cases hlt : k < zs.length
        · obtain ⟨a, x, rfl, hx, g0, g1, g2⟩ := (HRz.out.below HBb.out).tmAt hlt
          have HTk : Hid ((zs.take (k + 1)).map duT = (zs.take k).map duT ++ [⟨x.id, x.at'⟩]) := Lib.hid (by rw [take_atN (d := tm0) hlt, hx, List.map_append]; rfl)
          clear hx
          obtain ⟨d0, d1, d2⟩ := x
          dsimp only at *
          go_upto_region 13 with fail
          refine name_world fun U hU => ?_
          have hbu : Below wr.heap.size wr U := by rw [hU]; exact (Below.refl _ _).alloc (Nat.le_refl _) _
          have HX : Hid (U.heap[wr.heap.size]? = some (.cells #[.int .i64 d0, .int .i64 d1, .int .i64 d2] 140 (0, 0))) := Lib.hid (by rw [hU]; exact heap_alloc_new _ _)
          have HOu := Lib.hid (own_belowK HOb.out hbu)
          have HBu := Lib.hid (HBb.out.trans (hbu.mono HBb.out.size))
          have lc := box_lt HX.out
          clear hU hbu g0 g1 g2 HOb HBb
          generalize wr.heap.size = bx at *
          obtain ⟨xx, xy⟩ := box_rules HX.out
          go_wp2_with (at_builtin; go_loud (refine wp_appK rfl _ _ skc_du (by decide) rfl (own_allocK HOu.out _) rfl (by omega) (by have := HBu.out.size; simp; omega) U.heap.size [.int .i64 d0, .int .i64 d1] rfl rfl (fun j u hu => new_cell hu) rfl ?_); intro P4 c4 w4 ho4 hg4 hat4; have S4 := Lib.hid (grown_step HOu.out hg4))
          refine ⟨⟨k + 1, P4, c4, hlt, by go_num, rfl, Lib.hid ?_, Lib.hid (S4.out.below HBu.out (Nat.le_refl _) HBu.out.size)⟩, ?_⟩
          · rw [HTk.out, List.flatMap_append]; exact ho4
          · simp [intOf]; omega
        · obtain rfl : k = zs.length := by omega
          have hml : zs.length = (mvD now L).length := by rw [← HZm.out, List.length_map]
          have HOz : Hid (wr.ownsRow w5.heap.size 98 2 (.slice B (mvD now L).length cb) (mvD now L).length ((mvD now L).flatMap duc)) := Lib.hid (by
            have h9 := HOb.out
            rw [List.take_length, HZm.out, hml] at h9
            exact h9)
          have HW6 : Hid (Whl wr f room now (rsD now L) tn) := Lib.hid (HW5.out.below HBb.out)
          rw [hml]
          have HT6 := Lib.hid (HTw.out.below HBb.out)
          have hsz := HTw.out.size
          clear hml hlt HOb
          go_wp2
          go_ret
          exact ⟨B, cb, rfl, own_rdK HOz.out, fun b hb => (by
            subst hb
            exact Nat.le_trans hsz (own_blockK HOz.out rfl).1), HW6.out, HT6.out⟩
end Go.Proofs.YtiblpnadninmbaaDoor

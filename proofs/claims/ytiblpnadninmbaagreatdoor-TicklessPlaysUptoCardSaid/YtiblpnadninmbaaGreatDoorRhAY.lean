/- Package vergeref08: the walks of New, At, Insert, Cancel and Next. Conditions: lists that read. -/
import Derived.Test.YtiblpnadninmbaaGreatDoorWhOY
namespace Go.Proofs.YtiblpnadninmbaaGreatDoor
open Go.RowKit Go.Shelf
attribute [local go_sem] Oper.semAt_some

def duc (x : Du) : List Value := [.int .i64 x.id, .int .i64 x.at']
def du0 : Du := ⟨0, 0⟩
def rwv (now room : Int) (A : Option Addr) (n c : Nat) : Value := .agg #[.int .i64 now, .int .i64 room, .slice A n c]
theorem skc_du : SlK Tryz.prog 30 140 2 16 := SlK.mk' (z := .agg #[.int .i64 0, .int .i64 0]) Tryz.underlying30 (by kernel_rfl) rfl (by decide)
theorem duc_len (l : List Du) : (l.flatMap duc).length = l.length * 2 := by
  induction l with
  | nil => rfl
  | cons x l ih => rw [List.flatMap_cons, List.length_append, ih]; simp [duc]; omega
theorem duc_one (l : List Du) : ∀ u ∈ l.flatMap duc, u.oneCell' = true := fun u hu => by
  obtain ⟨x, _, h⟩ := List.mem_flatMap.1 hu
  simp [duc] at h
  rcases h with rfl | rfl <;> rfl
theorem add_plus2 (a : Addr) (n j : Nat) (hj : 0 < j) : a.add (n + j) = ⟨(a.add n).block, (a.add n).off + j, none⟩ := by
  unfold Addr.add
  split <;> split <;> first | (exfalso; omega) | simp_all <;> omega
theorem Rd.duAt {w : World} {A : Option Addr} {ts : List Du} (h : Rd w A (ts.flatMap duc)) {k : Nat} (hk : k < ts.length) : ∃ a x, A = some a ∧ ts.getD k du0 = x ∧
    w.cell? (a.add (k * 2)) = some (.int .i64 x.id) ∧ w.cell? ⟨(a.add (k * 2)).block, (a.add (k * 2)).off + 1, none⟩ = some (.int .i64 x.at') := by
  have g := flat_get (f := duc) (k := 2) (fun _ => rfl) du0 ts k hk
  generalize ts.getD k du0 = x at *
  obtain ⟨a, rfl, h0⟩ := h _ _ (g 0 (by omega))
  obtain ⟨_, ha1, h1⟩ := h _ _ (g 1 (by omega)); cases ha1
  refine ⟨a, x, rfl, rfl, h0, ?_⟩
  rw [← add_plus2 a (k * 2) 1 (by omega)]; exact h1
theorem drop_atN {α : Type} {d : α} : ∀ {l : List α} {k : Nat}, k < l.length → l.drop k = l.getD k d :: l.drop (k + 1)
  | _ :: _, 0, _ => rfl
  | _ :: l, k + 1, h => drop_atN (l := l) (k := k) (by simpa using h)
theorem rtime_any (t : Int) (w : World) : Calls Tryz.prog 57 #[.int .i64 t] w fun e w' => e = .returned (.bool (decide (0 ≤ t ∧ t ≤ 4503599627370496))) ∧ w = w' := by
  by_cases h0 : 0 ≤ t
  · by_cases h1 : t ≤ 4503599627370496
    · rw [decide_eq_true ⟨h0, h1⟩]
      go_enter Tryz.func57, Tryz.ntmps57
      go_wp2
      go_ret
      exact ⟨rfl, rfl⟩
    · rw [decide_eq_false (fun e => h1 e.2)]
      have h2 : decide (t ≤ 4503599627370496) = false := by simpa using h1
      go_enter Tryz.func57, Tryz.ntmps57
      go_wp2
      go_ret
      exact ⟨by first | rfl | simp, rfl⟩
  · rw [decide_eq_false (fun e => h0 e.1)]
    have h2 : decide (0 ≤ t) = false := by simpa using h0
    go_enter Tryz.func57, Tryz.ntmps57
    go_wp2
    go_ret
    exact ⟨by first | rfl | simp, rfl⟩
set_option maxHeartbeats 4000000 in
set_option maxRecDepth 100000 in
theorem rat_any (now room id : Int) (L : List Du) (A : Option Addr) (c : Nat) (w : World) (hl : L.length ≤ 1048576) (hr : Rd w A (L.flatMap duc)) :
    Calls Tryz.prog 85 #[rwv now room A L.length c, .int .i64 id] w fun e w' => e = .returned (.tuple #[.int .i64 (atD L id), .int .i64 (canC L id)]) ∧ Below w.heap.size w w' := by
  have HR := Lib.hid hr
  have HG0 : Hid (atD (L.drop 0) id = atD L id ∧ canC (L.drop 0) id = canC L id) := Lib.hid ⟨rfl, rfl⟩
  obtain ⟨ra, hra⟩ : ∃ ra, atD L id = ra := ⟨_, rfl⟩
  obtain ⟨rc, hrc⟩ : ∃ rc, canC L id = rc := ⟨_, rfl⟩
  rw [hra, hrc] at HG0 ⊢
  clear hr hra hrc
  unfold rwv
  go_enter Tryz.func85, Tryz.ntmps85
  go_upto_region 2 with fail
  go_loopw [11] (fun i wr => ∃ k : Nat, k ≤ L.length ∧ i = .int .i64 k ∧ Hid (atD (L.drop k) id = ra ∧ canC (L.drop k) id = rc) ∧ Hid (Below w.heap.size w wr)) (fun i _ => L.length - (intOf i).toNat)
  case atStart => exact ⟨0, by omega, rfl, HG0, Lib.hid ((Below.refl _ _).alloc (Nat.le_refl _) _)⟩
  case round =>
    obtain ⟨k, hk, rfl, HG, HB⟩ := hrel
    have hsz := HB.out.size
    by_cases hlt : k < L.length
    · obtain ⟨a, x, rfl, hx, g0, g1⟩ := (HR.out.below HB.out).duAt hlt
      have hdr := drop_atN (d := du0) hlt
      rw [hx] at hdr
      by_cases hid : x.id = id
      · have HN : Hid (x.at' = ra ∧ 0 = rc) := Lib.hid (by
          have h9 := HG.out
          rw [hdr] at h9
          refine ⟨?_, ?_⟩
          · rw [← h9.1]; show _ = (if x.id = id then x.at' else _); rw [if_pos hid]
          · rw [← h9.2]; show _ = (if hasD (x :: L.drop (k + 1)) id = true then (0 : Int) else 3); rw [if_pos (by unfold hasD; simp [hid])])
        have t0 : (x.id == id) = true := by simpa using hid
        clear hx hdr hid
        go_wp2
        go_ret2
        exact ⟨by rw [← HN.out.1, ← HN.out.2]; rfl, HB.out.alloc hsz _⟩
      · have HN : Hid (atD (L.drop (k + 1)) id = ra ∧ canC (L.drop (k + 1)) id = rc) := Lib.hid (by
          have h9 := HG.out
          rw [hdr] at h9
          refine ⟨?_, ?_⟩
          · rw [← h9.1]; show _ = (if x.id = id then x.at' else _); rw [if_neg hid]
          · rw [← h9.2]; unfold canC hasD; simp [hid])
        have t0 : (x.id == id) = false := by simpa using hid
        clear hx hdr hid
        go_wp2
        refine ⟨⟨k + 1, by omega, by go_num, HN, Lib.hid (HB.out.alloc hsz _)⟩, ?_⟩
        simp [intOf]; omega
    · obtain rfl : k = L.length := by omega
      have HN : Hid (0 = ra ∧ 3 = rc) := Lib.hid (by
        have h9 := HG.out
        rw [List.drop_length] at h9
        exact h9)
      go_wp2
      go_ret2
      exact ⟨by rw [← HN.out.1, ← HN.out.2]; rfl, HB.out⟩
/-- What hands back a wheel of the document's. -/
def RetRw (now room : Int) (L : List Du) (code : Int) (A : Option Addr) (w : World) (e : Ending) (w' : World) : Prop :=
  ∃ A' c', e = .returned (.tuple #[rwv now room A' L.length c', .int .i64 code]) ∧ Rd w' A' (L.flatMap duc) ∧ (∀ a, A' = some a → A = some a ∨ (w.heap.size ≤ a.block ∧ a.block < w'.heap.size)) ∧ Below w.heap.size w w'

set_option maxHeartbeats 4000000 in
set_option maxRecDepth 100000 in
theorem rins_any (now : Int) (room : Nat) (id a : Int) (L : List Du) (A : Option Addr) (c : Nat) (w : World) (hl : L.length ≤ 1048576) (hr : Rd w A (L.flatMap duc)) :
    Calls Tryz.prog 58 #[rwv now room A L.length c, .int .i64 id, .int .i64 a] w (RetRw now room (insL room L id a) (insC room L id a) A w) := by
  have HR := Lib.hid hr
  have f1 := Lib.hid (fun X => rtime_any a X)
  have f2 : Hid (∀ X, Below w.heap.size w X → Calls Tryz.prog 85 #[.agg #[.int .i64 now, .int .i64 room, .slice A L.length c], .int .i64 id] X fun e w' => e = .returned (.tuple #[.int .i64 (atD L id), .int .i64 (canC L id)]) ∧ Below X.heap.size X w') := Lib.hid (fun X hX => rat_any now room id L A c X hl (hr.below hX))
  clear hr
  obtain ⟨ic, hic⟩ : ∃ ic, insC room L id a = ic := ⟨_, rfl⟩
  obtain ⟨il, hil⟩ : ∃ il, insL room L id a = il := ⟨_, rfl⟩
  have HIC : Hid (ic = if ¬ (0 ≤ a ∧ a ≤ 4503599627370496) then 1 else if hasD L id = true then 4 else if room ≤ L.length then 5 else 0) := Lib.hid hic.symm
  have HIL : Hid (il = if ic = 0 then L ++ [⟨id, a⟩] else L) := Lib.hid (by rw [← hil, ← hic]; rfl)
  have HCC : Hid (canC L id = if hasD L id = true then 0 else 3) := Lib.hid rfl
  rw [hic, hil]
  clear hic hil
  generalize atD L id = ad at *
  unfold rwv
  go_enter Tryz.func58, Tryz.ntmps58
  go_upto_region 1 with fail
  refine name_world fun V hV => ?_
  have hb0 : V.heap[w.heap.size]? = some (.cells #[.int .i64 now, .int .i64 room, .slice A L.length c] 32 (0, 0)) := by rw [hV]; exact box_alloc (heap_alloc_new _ _) _
  have hb1 : V.heap[w.heap.size + 1]? = some (.cells #[.int .i64 0, .int .i64 0, .slice none 0 0] 32 (0, 0)) := by rw [hV]; exact heap_new_at _ (by simp)
  have HB0 := Lib.hid hb0; have HB1 := Lib.hid hb1
  have HBV : Hid (Below w.heap.size w V) := Lib.hid (by rw [hV]; exact ((Below.refl _ _).alloc (Nat.le_refl _) _).alloc (by simp) _)
  clear hV
  obtain ⟨x0, y0⟩ := box_rules hb0
  obtain ⟨x1, y1⟩ := box_rules hb1
  have l1 := box_lt hb1
  clear hb0 hb1
  by_cases ha : 0 ≤ a ∧ a ≤ 4503599627370496
  · rw [decide_eq_true ha] at f1
    rw [if_neg (show ¬ ¬ (0 ≤ a ∧ a ≤ 4503599627370496) from fun h => h ha)] at HIC
    by_cases hh : hasD L id = true
    · rw [if_pos hh] at HIC HCC
      have HIC2 : Hid (ic = 4) := HIC
      have HIL2 : Hid (il = L) := Lib.hid (by rw [HIL.out, HIC.out, if_neg (by omega)])
      rw [HCC.out] at f2
      clear ha hh HIC HIL
      go_upto_region 5 with (first
        | (go_at_call 57; (with_reducible refine (f1.out _).mono ?_); rintro e w1 ⟨rfl, rfl⟩)
        | (go_at_call 85; (with_reducible refine (f2.out _ HBV.out).mono ?_); rintro e w2 ⟨rfl, hb2⟩; have HW : Below w.heap.size w w2 ∧ w2.heap[w.heap.size]? = some (.cells #[.int .i64 now, .int .i64 room, .slice A L.length c] 32 (0, 0)) ∧ w2.heap[w.heap.size + 1]? = some (.cells #[.int .i64 0, .int .i64 0, .slice none 0 0] 32 (0, 0)) := ⟨HBV.out.trans (hb2.mono HBV.out.size), box_keep HB0.out hb2, box_keep HB1.out hb2⟩; clear hb2 x0 y0 x1 y1 l1))
      have hq0 := HW.2.1; have hq1 := HW.2.2
      obtain ⟨x0, y0⟩ := box_rules hq0
      obtain ⟨x1, y1⟩ := box_rules hq1
      have l1 := box_lt hq1
      have HQ := Lib.hid HW
      clear hq0 hq1
      go_wp2
      refine name_post fun V4 hV4 => ?_
      have HB4 : Hid (Below w.heap.size w V4) := Lib.hid (by rw [hV4]; exact ((HQ.out.1.setCell (p := ⟨w.heap.size + 1, 0, none⟩) (Nat.le_succ _) _).setCell (p := ⟨w.heap.size + 1, 1, none⟩) (Nat.le_succ _) _).setCell (p := ⟨w.heap.size + 1, 2, none⟩) (Nat.le_succ _) _)
      have hE4 : V4.heap[w.heap.size + 1]? = some (.cells #[.int .i64 now, .int .i64 room, .slice A (L).length c] 32 (0, 0)) := by rw [hV4]; exact box_set (i := 2) (box_set (i := 1) (box_set (i := 0) HQ.out.2.2 _) _) _
      have HR4 : Hid (Rd V4 A ((L).flatMap duc)) := Lib.hid (by rw [hV4]; exact (HR.out.below (((HQ.out.1.setCell (p := ⟨w.heap.size + 1, 0, none⟩) (Nat.le_succ _) _).setCell (p := ⟨w.heap.size + 1, 1, none⟩) (Nat.le_succ _) _).setCell (p := ⟨w.heap.size + 1, 2, none⟩) (Nat.le_succ _) _)))
      obtain ⟨vx, vy⟩ := box_rules hE4
      clear hV4
      refine bodyPost_ret (v := .tuple #[.agg #[.int .i64 now, .int .i64 room, .slice A (L).length c], .int .i64 4]) (by simp [results, Tryz.f58, go_sem, vx]) rfl ?_
      exact ⟨A, c, by rw [HIC2.out, HIL2.out]; rfl, by rw [HIL2.out]; exact HR4.out, fun a h => .inl h, HB4.out⟩
    · rw [if_neg hh] at HIC HCC
      rw [HCC.out] at f2
      clear ha hh
      have t3 : ((3 : Int) == 0) = false := by decide
      go_upto_region 6 with (first
        | (go_at_call 57; (with_reducible refine (f1.out _).mono ?_); rintro e w1 ⟨rfl, rfl⟩)
        | (go_at_call 85; (with_reducible refine (f2.out _ HBV.out).mono ?_); rintro e w2 ⟨rfl, hb2⟩; have HW : Below w.heap.size w w2 ∧ w2.heap[w.heap.size]? = some (.cells #[.int .i64 now, .int .i64 room, .slice A L.length c] 32 (0, 0)) ∧ w2.heap[w.heap.size + 1]? = some (.cells #[.int .i64 0, .int .i64 0, .slice none 0 0] 32 (0, 0)) := ⟨HBV.out.trans (hb2.mono HBV.out.size), box_keep HB0.out hb2, box_keep HB1.out hb2⟩; clear hb2 x0 y0 x1 y1 l1))
      by_cases hfull : room ≤ L.length
      · rw [if_pos hfull] at HIC
        have HIC2 : Hid (ic = 5) := HIC
        have HIL2 : Hid (il = L) := Lib.hid (by rw [HIL.out, HIC.out, if_neg (by omega)])
        have hf2 : decide ((room : Int) ≤ (L.length : Int)) = true := by simp; omega
        clear HIC HIL
        have hq0 := HW.2.1; have hq1 := HW.2.2
        obtain ⟨x0, y0⟩ := box_rules hq0
        obtain ⟨x1, y1⟩ := box_rules hq1
        have l1 := box_lt hq1
        have HQ := Lib.hid HW
        clear hq0 hq1
        go_wp2
        refine name_post fun V4 hV4 => ?_
        have HB4 : Hid (Below w.heap.size w V4) := Lib.hid (by rw [hV4]; exact ((HQ.out.1.setCell (p := ⟨w.heap.size + 1, 0, none⟩) (Nat.le_succ _) _).setCell (p := ⟨w.heap.size + 1, 1, none⟩) (Nat.le_succ _) _).setCell (p := ⟨w.heap.size + 1, 2, none⟩) (Nat.le_succ _) _)
        have hE4 : V4.heap[w.heap.size + 1]? = some (.cells #[.int .i64 now, .int .i64 room, .slice A (L).length c] 32 (0, 0)) := by rw [hV4]; exact box_set (i := 2) (box_set (i := 1) (box_set (i := 0) HQ.out.2.2 _) _) _
        have HR4 : Hid (Rd V4 A ((L).flatMap duc)) := Lib.hid (by rw [hV4]; exact (HR.out.below (((HQ.out.1.setCell (p := ⟨w.heap.size + 1, 0, none⟩) (Nat.le_succ _) _).setCell (p := ⟨w.heap.size + 1, 1, none⟩) (Nat.le_succ _) _).setCell (p := ⟨w.heap.size + 1, 2, none⟩) (Nat.le_succ _) _)))
        obtain ⟨vx, vy⟩ := box_rules hE4
        clear hV4
        refine bodyPost_ret (v := .tuple #[.agg #[.int .i64 now, .int .i64 room, .slice A (L).length c], .int .i64 5]) (by simp [results, Tryz.f58, go_sem, vx]) rfl ?_
        exact ⟨A, c, by rw [HIC2.out, HIL2.out]; rfl, by rw [HIL2.out]; exact HR4.out, fun a h => .inl h, HB4.out⟩
      · rw [if_neg hfull] at HIC
        have HIC2 : Hid (ic = 0) := HIC
        have HIL2 : Hid (il = L ++ [⟨id, a⟩]) := Lib.hid (by rw [HIL.out, HIC.out, if_pos rfl])
        have hf2 : decide ((room : Int) ≤ (L.length : Int)) = false := by simp; omega
        have hf3 : decide (room ≤ L.length) = false := by simp; omega
        clear HIC HIL
        have hq0 := HW.2.1; have hq1 := HW.2.2
        obtain ⟨x0, y0⟩ := box_rules hq0
        obtain ⟨x1, y1⟩ := box_rules hq1
        have l1 := box_lt hq1; have l0 := box_lt hq0
        have HQ := Lib.hid HW
        have L2 := Lib.hid (duc_len L); have O2 := Lib.hid (duc_one L)
        have HE := Lib.hid (own_emptyK w2 140 (k := 2) (Nat.le_refl _))
        have HRa := Lib.hid ((HR.out.below HQ.out.1).alloc (.cells #[] 140))
        clear hq0 hq1 HW
        go_upto_region 9 with (at_builtin; (first
          | (go_loud (refine wp_appNK rfl _ _ skc_du (by decide) rfl HE.out rfl (by simp) A L.length c _ rfl L2.out HRa.out O2.out (by omega) ?_); intro A1 c1 v1 ho hb; rw [Nat.zero_add, List.nil_append] at ho; have HO1 := Lib.hid ho; have HB1' := Lib.hid hb; have HK0 := Lib.hid ((hb.block w.heap.size l0).trans (box_alloc HQ.out.2.1 _)); have HK1 := Lib.hid ((hb.block (w.heap.size + 1) l1).trans (box_alloc HQ.out.2.2 _)); clear ho hb)
          | (go_loud (refine wp_appK rfl _ _ skc_du (by decide) rfl (own_allocK HO1.out _) rfl (by omega) (by have := HB1'.out.size; simp at this ⊢; omega) v1.heap.size [.int .i64 id, .int .i64 a] rfl rfl (fun j u hu => new_cell hu) rfl ?_); intro A3 c3 v3 ho hg hat; have HO3 := Lib.hid ho; have HG3 := Lib.hid (grown_step HO1.out hg); have HZ0 := Lib.hid (HG3.out.low HK0.out l0); have HZ1 := Lib.hid (HG3.out.low HK1.out l1); obtain ⟨z0, zf0⟩ := box_rules HZ0.out; obtain ⟨z1, zf1⟩ := box_rules HZ1.out; clear ho hg hat x0 y0 x1 y1)))
        refine name_world fun U hU => ?_
        have HB3 : Hid (Below w.heap.size w v3) := Lib.hid (HG3.out.below (HQ.out.1.trans ((((Below.refl w2.heap.size w2).alloc (Nat.le_refl _) _).trans HB1'.out).mono HQ.out.1.size)) HQ.out.1.size (by have := HB1'.out.size; simp at this; have := HQ.out.1.size; omega))
        have HU0 : Hid (U.heap[w.heap.size]? = some (.cells #[.int .i64 now, .int .i64 room, .slice A3 (L.length + 1) c3] 32 (0, 0))) := Lib.hid (by rw [hU]; exact box_set (i := 2) HZ0.out _)
        have HU1 : Hid (U.heap[w.heap.size + 1]? = some (.cells #[.int .i64 0, .int .i64 0, .slice none 0 0] 32 (0, 0))) := Lib.hid (by rw [hU]; exact box_far HZ1.out (Nat.succ_ne_self _) _)
        have HUR : Hid (U.ownsRow w2.heap.size 140 2 (.slice A3 (L.length + 1) c3) (L.length + 1) ((L ++ [(⟨id, a⟩ : Du)]).flatMap duc)) := Lib.hid (by
          rw [hU, show (L ++ [(⟨id, a⟩ : Du)]).flatMap duc = L.flatMap duc ++ [.int .i64 id, .int .i64 a] from by simp [duc]]
          exact own_setK HO3.out (own_low HO3.out l0) _)
        have HUB : Hid (Below w.heap.size w U) := Lib.hid (by rw [hU]; exact HB3.out.setCell (Nat.le_refl _) _)
        have HN3 : Hid (∀ b, A3 = some b → A = some b ∨ w.heap.size ≤ b.block) := Lib.hid (fun b hb => by
          subst hb
          exact .inr (Nat.le_trans HQ.out.1.size (own_blockK HO3.out rfl).1))
        clear hU z0 zf0 z1 zf1
        obtain ⟨x0, y0⟩ := box_rules HU0.out
        obtain ⟨x1, y1⟩ := box_rules HU1.out
        go_wp2
        refine name_post fun V4 hV4 => ?_
        have HB4 : Hid (Below w.heap.size w V4) := Lib.hid (by rw [hV4]; exact ((HUB.out.setCell (p := ⟨w.heap.size + 1, 0, none⟩) (Nat.le_succ _) _).setCell (p := ⟨w.heap.size + 1, 1, none⟩) (Nat.le_succ _) _).setCell (p := ⟨w.heap.size + 1, 2, none⟩) (Nat.le_succ _) _)
        have hE4 : V4.heap[w.heap.size + 1]? = some (.cells #[.int .i64 now, .int .i64 room, .slice A3 (L.length + 1) c3] 32 (0, 0)) := by rw [hV4]; exact box_set (i := 2) (box_set (i := 1) (box_set (i := 0) HU1.out _) _) _
        have HR4 : Hid (Rd V4 A3 ((L ++ [(⟨id, a⟩ : Du)]).flatMap duc)) := Lib.hid (by
          rw [hV4]
          exact own_rdK (own_setK (own_setK (own_setK HUR.out (own_low HUR.out l1) _) (own_low HUR.out l1) _) (own_low HUR.out l1) _))
        have HL4 : Hid (∀ b, A3 = some b → b.block < V4.heap.size) := Lib.hid (fun b hb => by
          subst hb
          have h9 := (own_blockK HUR.out rfl).2.1
          rw [hV4]
          simpa using h9)
        obtain ⟨vx, vy⟩ := box_rules hE4
        clear hV4
        refine bodyPost_ret (v := .tuple #[.agg #[.int .i64 now, .int .i64 room, .slice A3 (L.length + 1) c3], .int .i64 0]) (by simp [results, Tryz.f58, go_sem, vx]) rfl ?_
        exact ⟨A3, c3, by rw [HIC2.out, HIL2.out, List.length_append]; rfl, by rw [HIL2.out]; exact HR4.out, fun b hb => (HN3.out b hb).imp (fun h8 => h8) (fun h9 => ⟨h9, HL4.out b hb⟩), HB4.out⟩
  · rw [if_pos (show ¬ (0 ≤ a ∧ a ≤ 4503599627370496) from ha)] at HIC
    rw [decide_eq_false ha] at f1
    have HIC2 : Hid (ic = 1) := HIC
    have HIL2 : Hid (il = L) := Lib.hid (by rw [HIL.out, HIC.out, if_neg (by omega)])
    clear ha HIC HIL
    go_upto_region 2 with (go_at_call 57; (with_reducible refine (f1.out _).mono ?_); rintro e w1 ⟨rfl, rfl⟩)
    have HW : Below w.heap.size w V ∧ V.heap[w.heap.size]? = some (.cells #[.int .i64 now, .int .i64 room, .slice A L.length c] 32 (0, 0)) ∧ V.heap[w.heap.size + 1]? = some (.cells #[.int .i64 0, .int .i64 0, .slice none 0 0] 32 (0, 0)) := ⟨HBV.out, HB0.out, HB1.out⟩
    clear x0 y0 x1 y1 l1
    have hq0 := HW.2.1; have hq1 := HW.2.2
    obtain ⟨x0, y0⟩ := box_rules hq0
    obtain ⟨x1, y1⟩ := box_rules hq1
    have l1 := box_lt hq1
    have HQ := Lib.hid HW
    clear hq0 hq1
    go_wp2
    refine name_post fun V4 hV4 => ?_
    have HB4 : Hid (Below w.heap.size w V4) := Lib.hid (by rw [hV4]; exact ((HQ.out.1.setCell (p := ⟨w.heap.size + 1, 0, none⟩) (Nat.le_succ _) _).setCell (p := ⟨w.heap.size + 1, 1, none⟩) (Nat.le_succ _) _).setCell (p := ⟨w.heap.size + 1, 2, none⟩) (Nat.le_succ _) _)
    have hE4 : V4.heap[w.heap.size + 1]? = some (.cells #[.int .i64 now, .int .i64 room, .slice A (L).length c] 32 (0, 0)) := by rw [hV4]; exact box_set (i := 2) (box_set (i := 1) (box_set (i := 0) HQ.out.2.2 _) _) _
    have HR4 : Hid (Rd V4 A ((L).flatMap duc)) := Lib.hid (by rw [hV4]; exact (HR.out.below (((HQ.out.1.setCell (p := ⟨w.heap.size + 1, 0, none⟩) (Nat.le_succ _) _).setCell (p := ⟨w.heap.size + 1, 1, none⟩) (Nat.le_succ _) _).setCell (p := ⟨w.heap.size + 1, 2, none⟩) (Nat.le_succ _) _)))
    obtain ⟨vx, vy⟩ := box_rules hE4
    clear hV4
    refine bodyPost_ret (v := .tuple #[.agg #[.int .i64 now, .int .i64 room, .slice A (L).length c], .int .i64 1]) (by simp [results, Tryz.f58, go_sem, vx]) rfl ?_
    exact ⟨A, c, by rw [HIC2.out, HIL2.out]; rfl, by rw [HIL2.out]; exact HR4.out, fun a h => .inl h, HB4.out⟩
end Go.Proofs.YtiblpnadninmbaaGreatDoor

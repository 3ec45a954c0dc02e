/- Package storm: a mask in memory; the walks of place, Next, tell, Masked, Enter. Conditions: a mask's memory, times that may be. -/
import Derived.Test.YtpncbkodhojicaaDoorQaPIc
import Derived.Test.YtpncbkodhojicaaDoorIqV
import Derived.StillTailTactics
import Derived.WalkMore
import Derived.BigQuiet
import Derived.Deep.QuietTactic
namespace Go.Proofs.YtpncbkodhojicaaDoor
open Go.RowKit Go.Shelf
attribute [local go_sem] Oper.semAt_some
/-- A mask in memory: its box, its ring of turns. -/
structure MkM (w : World) (b g many : Nat) (window : Int) (L : List Int) (last : Int) (fi : Nat) (rf : Int) (ring : List Int) : Prop where
  box : w.heap[b]? = some (.cells #[.int .i64 window, .slice (some ⟨g, 0, none⟩) many many, .int .i64 fi, .int .i64 (L.length : Nat), .int .i64 last, .int .i64 rf] 111 (0, 0))
  rng : w.heap[g]? = some (.cells (ring.map (Value.int .i64)).toArray 2 (0, 0))
  rlen : ring.length = many
  m64 : many ≤ 64
  fin : fi < many
  len : L.length ≤ many
  at' : ∀ i, i < L.length → ring.getD ((fi + i) % many) 0 = L.getD i 0 + window
section
variable {w w' : World} {b g many : Nat} {window : Int} {L : List Int} {last : Int} {fi : Nat} {rf : Int} {ring : List Int}
theorem MkM.ne (h : MkM w b g many window L last fi rf ring) : b ≠ g := fun e => by
  have h1 := h.box
  rw [e, h.rng] at h1
  injection h1 with h1
  injection h1 with _ h1
  exact absurd h1 (by decide)
theorem MkM.tn {F : List Nat} (h : MkM w b g many window L last fi rf ring) (ht : Tn F w w') (h1 : b ∉ F) (h2 : g ∉ F) : MkM w' b g many window L last fi rf ring :=
  ⟨ht.box h.box h1, ht.box h.rng h2, h.rlen, h.m64, h.fin, h.len, h.at'⟩
theorem MkM.below (h : MkM w b g many window L last fi rf ring) (hb : Below w.heap.size w w') : MkM w' b g many window L last fi rf ring := h.tn (Tn.of_below [] hb) (by simp) (by simp)
theorem MkM.drew (h : MkM w b g many window L last fi rf ring) : MkM w.drew b g many window L last fi rf ring := ⟨h.box, h.rng, h.rlen, h.m64, h.fin, h.len, h.at'⟩
theorem MkM.drewN (h : MkM w b g many window L last fi rf ring) (n : Nat) : MkM (w.drewN n) b g many window L last fi rf ring := ⟨h.box, h.rng, h.rlen, h.m64, h.fin, h.len, h.at'⟩
/-- A cell of the ring. -/
theorem MkM.cell (h : MkM w b g many window L last fi rf ring) {i : Nat} (hi : i < many) : w.cell? ⟨g, i, none⟩ = some (.int .i64 (ring.getD i 0)) ∧ w.frozen? ⟨g, i, none⟩ = false := by
  obtain ⟨x, y⟩ := box_rules h.rng
  refine ⟨?_, y i⟩
  have hl : i < ring.length := by rw [h.rlen]; exact hi
  rw [x]
  simp [List.getElem?_eq_getElem hl, List.getD]
theorem MkM.head (h : MkM w b g many window L last fi rf ring) {x : Int} {L' : List Int} (hL : L = x :: L') : ring.getD fi 0 = x + window := by
  subst hL
  have h1 := h.at' 0 (by simp)
  rw [Nat.add_zero, Nat.mod_eq_of_lt h.fin] at h1
  rw [h1]; rfl
end
theorem place_int {fi n many : Nat} (_ : 0 < many) : Int.tmod ((fi : Int) + (n : Int)) (many : Int) = (((fi + n) % many : Nat) : Int) := by
  rw [show (fi : Int) + (n : Int) = ((fi + n : Nat) : Int) by omega]
  rfl
set_option maxHeartbeats 4000000 in
theorem mplace_any (b g many : Nat) (window : Int) (L : List Int) (last : Int) (fi : Nat) (rf : Int) (ring : List Int) (n : Nat) (w : World) (h : MkM w b g many window L last fi rf ring) (hn : n ≤ 64) :
    Calls Tryd.prog 60 #[.pointer (some ⟨b, 0, none⟩), .int .i64 n] w fun e w' => e = .returned (.int .i64 (((fi + n) % many : Nat) : Int)) ∧ ∃ k, w.drewN k = w' := by
  obtain ⟨x, y⟩ := box_rules h.box
  have l := box_lt h.box
  have h1 := h.m64
  have h2 := h.fin
  have e2 := place_int (fi := fi) (n := n) (many := many) (by omega)
  obtain ⟨z, hz⟩ : ∃ z : Int, (fi : Int) + (n : Int) = z := ⟨_, rfl⟩
  have e1 : IntKind.i64.wrap ((fi : Int) + (n : Int)) = z := by rw [hz]; exact IntWalk.i64_in _ (by omega)
  rw [hz] at e2
  obtain ⟨r, hr⟩ : ∃ r : Int, (((fi + n) % many : Nat) : Int) = r := ⟨_, rfl⟩
  have hrb : 0 ≤ r ∧ r < 64 := by have := Nat.mod_lt (fi + n) (show 0 < many by omega); omega
  rw [hr] at e2 ⊢
  have e3 : IntKind.i64.wrap (z.tmod (many : Int)) = r := by rw [e2]; exact IntWalk.i64_in _ (by omega)
  obtain ⟨mm, hmm⟩ : ∃ mm : Int, (many : Int) = mm := ⟨_, rfl⟩
  rw [hmm] at e2 e3
  have hm0 : (mm == 0) = false := beq_eq_false_iff_ne.2 (by omega)
  have hm1 : ¬ mm = 0 := by omega
  clear h hz hr hn h1 h2
  go_enter Tryd.func60, Tryd.ntmps60
  go_wp2
  go_quiet (fail)
  go_wp2
  go_ret
  exact ⟨rfl, _, rfl⟩
theorem mnext_nil (b g many : Nat) (window : Int) (last : Int) (fi : Nat) (rf : Int) (ring : List Int) (w : World) (h : MkM w b g many window [] last fi rf ring) :
    Calls Tryd.prog 34 #[.pointer (some ⟨b, 0, none⟩)] w fun e w' => e = .returned (.tuple #[.int .i64 0, .bool false]) ∧ ∃ k, w.drewN k = w' := by
  obtain ⟨x, y⟩ := box_rules h.box
  have l := box_lt h.box
  dsimp only [List.length_nil] at x
  clear h
  go_enter Tryd.func34, Tryd.ntmps34
  go_wp2
  go_ret2
  exact ⟨rfl, 0, rfl⟩
set_option maxHeartbeats 4000000 in
theorem mnext_cons (b g many : Nat) (window : Int) (x0 : Int) (L : List Int) (last : Int) (fi : Nat) (rf : Int) (ring : List Int) (w : World) (h : MkM w b g many window (x0 :: L) last fi rf ring) :
    Calls Tryd.prog 34 #[.pointer (some ⟨b, 0, none⟩)] w fun e w' => e = .returned (.tuple #[.int .i64 (x0 + window), .bool true]) ∧ ∃ k, w.drewN k = w' := by
  obtain ⟨x, y⟩ := box_rules h.box
  have l := box_lt h.box
  obtain ⟨c1, c2⟩ := h.cell h.fin
  rw [h.head rfl] at c1
  have h2 := h.fin
  have h3 : ((fi : Int) < (many : Int)) := by omega
  have h4 : (0 : Int) ≤ (fi : Int) := by omega
  have hl : ((x0 :: L).length : Int) = (L.length : Int) + 1 := by simp
  have hz : ((((x0 :: L).length : Nat) : Int) == 0) = false := beq_eq_false_iff_ne.2 (by omega)
  obtain ⟨n, hn⟩ : ∃ n : Int, (((x0 :: L).length : Nat) : Int) = n := ⟨_, rfl⟩
  rw [hn] at x hz
  obtain ⟨v, hv⟩ : ∃ v : Int, x0 + window = v := ⟨_, rfl⟩
  rw [hv] at c1 ⊢
  clear h hl hn hv
  go_enter Tryd.func34, Tryd.ntmps34
  go_wp2
  go_quiet (fail)
  go_wp2
  go_ret2
  exact ⟨rfl, _, rfl⟩
/-- The first turn comes back. -/
theorem MkM.back {w w' : World} {b g many : Nat} {window : Int} {x : Int} {L : List Int} {last : Int} {fi : Nat} {rf : Int} {ring : List Int} (h : MkM w b g many window (x :: L) last fi rf ring) (ht : Tn [b] w w')
    (hb : w'.heap[b]? = some (.cells #[.int .i64 window, .slice (some ⟨g, 0, none⟩) many many, .int .i64 (((fi + 1) % many : Nat) : Int), .int .i64 (L.length : Nat), .int .i64 last, .int .i64 rf] 111 (0, 0))) : MkM w' b g many window L last ((fi + 1) % many) rf ring where
  box := hb
  rng := ht.box h.rng (fun hm => h.ne (List.mem_singleton.1 hm).symm)
  rlen := h.rlen
  m64 := h.m64
  fin := Nat.mod_lt _ (by have := h.fin; omega)
  len := by have := h.len; simp at this; omega
  at' i hi := by
    have h1 := h.at' (i + 1) (by simpa using hi)
    rw [Nat.mod_add_mod, show fi + 1 + i = fi + (i + 1) by omega, h1]
    rfl
/-- What tell leaves. -/
def RetMt (b g many : Nat) (window : Int) (L : List Int) (now rf : Int) (ring : List Int) (w : World) (e : Ending) (w' : World) : Prop :=
  e = .returned (.int .i64 0) ∧ ∃ fi', MkM w' b g many window L now fi' rf ring ∧ Tn [b] w w'
set_option maxHeartbeats 8000000 in
set_option maxRecDepth 100000 in
theorem mtell_ok (b g many : Nat) (window : Int) (L : List Int) (last : Int) (fi : Nat) (rf : Int) (ring : List Int) (now : Int) (w : World) (h : MkM w b g many window L last fi rf ring) (hs : L.Pairwise (· ≤ ·)) (h0 : last ≤ now) (h1 : now ≤ 4503599627370496) :
    Calls Tryd.prog 62 #[.pointer (some ⟨b, 0, none⟩), .int .i64 now] w (RetMt b g many window (backL now window L) now rf ring w) := by
  obtain ⟨x, y⟩ := box_rules h.box
  have l := box_lt h.box
  have H := Lib.hid h
  have HS := Lib.hid hs
  clear h hs
  have z1 : decide (now < last) = false := decide_eq_false (by omega)
  have z2 : decide (4503599627370496 < now) = false := decide_eq_false (by omega)
  go_enter Tryd.func62, Tryd.ntmps62
  go_wp2
  go_step3
  go_wp2
  go_step3
  clear x y l z1 z2
  have HV : Hid (MkM (w.setCell ⟨b, 4, none⟩ (.int .i64 now)) b g many window L now fi rf ring ∧ Tn [b] w (w.setCell ⟨b, 4, none⟩ (.int .i64 now))) := Lib.hid (by
    have hT : Tn [b] w (w.setCell ⟨b, 4, none⟩ (.int .i64 now)) := (Tn.refl _ _).setCell (p := ⟨b, 4, none⟩) (by simp) _
    exact ⟨⟨box_set (i := 4) H.out.box _, hT.box H.out.rng (fun hm => H.out.ne (List.mem_singleton.1 hm).symm), H.out.rlen, H.out.m64, H.out.fin, H.out.len, H.out.at'⟩, hT⟩)
  go_wp2_with fail
  go_loopw [5, 6] (fun _ _ wr => ∃ (k fi' : Nat), k ≤ L.length ∧ Hid (∀ i, i < k → ∀ t, L[i]? = some t → t + window ≤ now) ∧ Hid (MkM wr b g many window (L.drop k) now fi' rf ring) ∧ Hid (Tn [b] w wr)) (fun _ _ wr => (intOf ((wr.cell? ⟨b, 3, none⟩).getD undef)).toNat)
  case atStart => exact ⟨0, fi, by omega, Lib.hid (fun i hi => absurd hi (Nat.not_lt_zero i)), Lib.hid HV.out.1, Lib.hid HV.out.2⟩
  case round =>
    obtain ⟨k, fi', hk, HK, HM, HT⟩ := hrel
    obtain ⟨x, y⟩ := box_rules HM.out.box
    have l := box_lt HM.out.box
    cases hL : L.drop k with
    | nil =>
      have HE : Hid (backL now window L = []) := Lib.hid (by rw [back_drops HS.out k HK.out, hL]; rfl)
      rw [hL] at HM x
      have fN := Lib.hid (mnext_nil b g many window now fi' rf ring wr HM.out)
      clear hL
      go_wp2_with (go_at_call 34; (with_reducible refine fN.out.mono ?_); rintro e w2 ⟨rfl, n2, rfl⟩)
      rw [Exit.noGoto_ret]
      go_ret
      rw [HE.out]
      exact ⟨rfl, fi', HM.out.drewN _, HT.out.drewN _⟩
    | cons x0 L' =>
      have hk2 : k < L.length := by
        have h1 : (L.drop k).length = L'.length + 1 := by rw [hL]; rfl
        rw [List.length_drop] at h1; omega
      have hx0 : L[k]? = some x0 := by
        have h1 : (L.drop k)[0]? = some x0 := by rw [hL]; rfl
        rwa [List.getElem?_drop, Nat.add_zero] at h1
      have hd : L.drop (k + 1) = L' := by rw [← List.drop_drop, hL]; rfl
      have hsr : (x0 :: L').Pairwise (· ≤ ·) := by rw [← hL]; exact HS.out.sublist (List.drop_sublist _ _)
      by_cases hc : x0 + window ≤ now
      · have hz := HM.out.fin
        have h6 := HM.out.m64
        rw [hL] at HM x
        have fN := Lib.hid (mnext_cons b g many window x0 L' now fi' rf ring wr HM.out)
        have fP := Lib.hid (fun n => mplace_any b g many window (x0 :: L') now fi' rf ring 1 (wr.drewN n) (HM.out.drewN n) (by omega))
        have hlen : (((x0 :: L').length : Nat) : Int) = (L'.length : Int) + 1 := by simp
        obtain ⟨ll, hll⟩ : ∃ ll : Int, (((x0 :: L').length : Nat) : Int) = ll := ⟨_, rfl⟩
        obtain ⟨l1, hl1⟩ : ∃ l1 : Int, ((L'.length : Nat) : Int) = l1 := ⟨_, rfl⟩
        have HL1 := Lib.hid hl1
        have hle : l1 ≤ 64 := by have := HM.out.len; simp at this; omega
        rw [hll] at x
        have e1 : ll - 1 = l1 := by omega
        have HLl : Hid (ll = l1 + 1 ∧ 0 ≤ l1) := Lib.hid (by omega)
        have w1 : wrap64 (ll - 1) = l1 := by rw [e1]; exact Go.IntWalk.wrap64_in _ (by omega)
        obtain ⟨r, hr⟩ : ∃ r : Int, (((fi' + 1) % many : Nat) : Int) = r := ⟨_, rfl⟩
        have HR := Lib.hid hr
        rw [show (((1 : Nat)) : Int) = 1 from rfl, hr] at fP
        obtain ⟨v0, hv0⟩ : ∃ v0 : Int, x0 + window = v0 := ⟨_, rfl⟩
        rw [hv0] at fN
        have z3 : decide (now < v0) = false := decide_eq_false (by omega)
        have z4 : ¬ now < v0 := by omega
        have HMx := Lib.hid (x 3)
        have HK1 : Hid (∀ i, i < k + 1 → ∀ t, L[i]? = some t → t + window ≤ now) := Lib.hid (fun i hi t ht => by
          by_cases hik : i = k
          · subst hik
            rw [hx0] at ht; cases ht; exact hc
          · exact HK.out i (by omega) t ht)
        have HD := Lib.hid hd
        clear hlen hll hl1 e1 hr hv0 hc hL hsr hx0 hd hz h6 hle
        go_wp2_with (first
          | (go_at_call 34; (with_reducible refine fN.out.mono ?_); rintro e w2 ⟨rfl, n2, rfl⟩)
          | (go_at_call 60; (with_reducible refine (fP.out _).mono ?_); rintro e w3 ⟨rfl, n3, rfl⟩))
        have hT : Tn [b] wr (((wr.drewN (n2 + n3)).setCell ⟨b, 2, none⟩ (.int .i64 r)).setCell ⟨b, 3, none⟩ (.int .i64 l1)) := (((Tn.refl _ _).drewN _).setCell (p := ⟨b, 2, none⟩) (by simp) _).setCell (p := ⟨b, 3, none⟩) (by simp) _
        have hB := box_set (i := 3) (box_set (i := 2) (HM.out.drewN (n2 + n3)).box (.int .i64 r)) (.int .i64 l1)
        refine ⟨⟨k + 1, (fi' + 1) % many, hk2, HK1, ?_, Lib.hid (HT.out.trans hT)⟩, ?_⟩
        · rw [HD.out]
          exact Lib.hid (HM.out.back hT (by rw [HR.out, HL1.out]; exact hB))
        · have h8 := (box_rules hB).1 3
          have h9 := HMx.out
          have h7 := HLl.out
          rw [h8, h9]
          simp [intOf]
          omega
      · have HE : Hid (backL now window L = x0 :: L') := Lib.hid (by rw [back_drops HS.out k HK.out, hL]; exact back_stay hsr (by omega))
        rw [hL] at HM x
        have fN := Lib.hid (mnext_cons b g many window x0 L' now fi' rf ring wr HM.out)
        obtain ⟨v0, hv0⟩ : ∃ v0 : Int, x0 + window = v0 := ⟨_, rfl⟩
        rw [hv0] at fN
        have z3 : decide (now < v0) = true := decide_eq_true (by omega)
        have z4 : now < v0 := by omega
        clear hc hL hsr hx0 hd hv0
        go_wp2_with (go_at_call 34; (with_reducible refine fN.out.mono ?_); rintro e w2 ⟨rfl, n2, rfl⟩)
        rw [Exit.noGoto_ret]
        go_ret
        rw [HE.out]
        exact ⟨rfl, fi', HM.out.drewN _, HT.out.drewN _⟩
/-- What Masked leaves. -/
def RetMm (b g many : Nat) (window : Int) (L : List Int) (now rf : Int) (ring : List Int) (w : World) (e : Ending) (w' : World) : Prop :=
  e = .returned (.tuple #[.bool (decide (L.length = many)), .int .i64 0]) ∧ ∃ fi', MkM w' b g many window L now fi' rf ring ∧ Tn [b] w w'
set_option maxHeartbeats 4000000 in
set_option maxRecDepth 100000 in
theorem mmasked_ok (b g many : Nat) (window : Int) (L : List Int) (last : Int) (fi : Nat) (rf : Int) (ring : List Int) (now : Int) (w : World) (h : MkM w b g many window L last fi rf ring) (hs : L.Pairwise (· ≤ ·)) (h0 : last ≤ now) (h1 : now ≤ 4503599627370496) :
    Calls Tryd.prog 43 #[.pointer (some ⟨b, 0, none⟩), .int .i64 now] w (RetMm b g many window (backL now window L) now rf ring w) := by
  have f1 := Lib.hid (mtell_ok b g many window L last fi rf ring now w h hs h0 h1)
  clear h hs h0 h1
  unfold RetMt at f1
  generalize backL now window L = L2 at *
  go_enter Tryd.func43, Tryd.ntmps43
  go_upto_region 2 with (go_at_call 62; (with_reducible refine f1.out.mono ?_); rintro e w1 ⟨rfl, fi1, hm1, ht1⟩; have HM := Lib.hid hm1; have HT := Lib.hid ht1; clear hm1 ht1)
  obtain ⟨x, y⟩ := box_rules HM.out.box
  have l := box_lt HM.out.box
  obtain ⟨d, hd⟩ : ∃ d, decide (L2.length = many) = d := ⟨_, rfl⟩
  have hd2 : ((L2.length : Int) == (many : Int)) = d := by
    rw [← hd]
    by_cases hq : L2.length = many
    · rw [hq]; simp
    · rw [decide_eq_false hq]; exact beq_eq_false_iff_ne.2 (by omega)
  obtain ⟨ln, hln⟩ : ∃ ln : Int, (L2.length : Int) = ln := ⟨_, rfl⟩
  obtain ⟨mm, hmm⟩ : ∃ mm : Int, (many : Int) = mm := ⟨_, rfl⟩
  rw [hln, hmm] at hd2
  rw [hln] at x
  have HDd := Lib.hid hd
  clear hln hd
  go_quiet (fail)
  go_wp2
  go_ret2
  unfold RetMm
  rw [HDd.out]
  exact ⟨rfl, fi1, HM.out.drewN _, HT.out.drewN _⟩
theorem mod_small {a m : Nat} (h : a < 2 * m) : a % m = if a < m then a else a - m := by
  split
  · exact Nat.mod_eq_of_lt (by assumption)
  · rw [Nat.mod_eq_sub_mod (by omega), Nat.mod_eq_of_lt (by omega)]
/-- A turn is taken. -/
theorem MkM.push {w w' : World} {b g many : Nat} {window : Int} {L : List Int} {last : Int} {fi : Nat} {rf : Int} {ring : List Int} (h : MkM w b g many window L last fi rf ring) (hl : L.length < many) (now : Int) 
    (hb : w'.heap[b]? = some (.cells #[.int .i64 window, .slice (some ⟨g, 0, none⟩) many many, .int .i64 fi, .int .i64 ((L.length + 1 : Nat) : Int), .int .i64 last, .int .i64 rf] 111 (0, 0)))
    (hg : w'.heap[g]? = some (.cells ((ring.set ((fi + L.length) % many) (now + window)).map (Value.int .i64)).toArray 2 (0, 0))) : MkM w' b g many window (L ++ [now]) last fi rf (ring.set ((fi + L.length) % many) (now + window)) where
  box := by rw [List.length_append]; exact hb
  rng := hg
  rlen := by rw [List.length_set]; exact h.rlen
  m64 := h.m64
  fin := h.fin
  len := by rw [List.length_append]; simp; omega
  at' i hi := by
    have hf := h.fin
    have hr := h.rlen
    rw [List.length_append] at hi
    simp at hi
    rw [List.getD_eq_getElem?_getD, List.getElem?_set, List.getD_eq_getElem?_getD]
    by_cases he : i = L.length
    · subst he
      have : (fi + L.length) % many < ring.length := by rw [hr]; exact Nat.mod_lt _ (by omega)
      rw [if_pos rfl, if_pos this, List.getElem?_append_right (Nat.le_refl _)]
      simp
    · have hi2 : i < L.length := by omega
      have hne : ¬ (fi + L.length) % many = (fi + i) % many := by
        rw [mod_small (show fi + L.length < 2 * many by omega), mod_small (show fi + i < 2 * many by omega)]
        split <;> split <;> omega
      rw [if_neg hne, List.getElem?_append_left hi2, ← List.getD_eq_getElem?_getD, ← List.getD_eq_getElem?_getD]
      exact h.at' i hi2
theorem ints_set (ring : List Int) (j : Nat) (v : Int) : (ring.map (Value.int .i64)).toArray.setIfInBounds j (.int .i64 v) = ((ring.set j v).map (Value.int .i64)).toArray := by
  rw [List.setIfInBounds_toArray, List.map_set]
/-- What Enter leaves. -/
def RetMe (b g many : Nat) (window : Int) (L : List Int) (now : Int) (w : World) (e : Ending) (w' : World) : Prop :=
  if L.length = many then e = .returned (.int .i64 15) ∧ ∃ fi' rf' ring', MkM w' b g many window L now fi' rf' ring' ∧ Tn [b, g] w w'
  else e = .returned (.int .i64 0) ∧ ∃ fi' rf' ring', MkM w' b g many window (L ++ [now]) now fi' rf' ring' ∧ Tn [b, g] w w'
set_option maxHeartbeats 8000000 in
set_option maxRecDepth 100000 in
theorem menter_ok (b g many : Nat) (window : Int) (L : List Int) (last : Int) (fi : Nat) (rf : Int) (ring : List Int) (now : Int) (w : World) (h : MkM w b g many window L last fi rf ring) (hs : L.Pairwise (· ≤ ·)) (h0 : last ≤ now) (h1 : now ≤ 4503599627370496) (hn0 : 0 ≤ now) (hw : 1 ≤ window ∧ window ≤ 1099511627776) :
    Calls Tryd.prog 40 #[.pointer (some ⟨b, 0, none⟩), .int .i64 now] w (RetMe b g many window (backL now window L) now w) := by
  have f1 := Lib.hid (mmasked_ok b g many window L last fi rf ring now w h hs h0 h1)
  clear h hs h0
  unfold RetMm at f1
  generalize backL now window L = L2 at *
  by_cases hf : L2.length = many
  · have HF := Lib.hid hf
    rw [decide_eq_true hf] at f1
    clear hf
    go_enter Tryd.func40, Tryd.ntmps40
    go_upto_region 2 with (go_at_call 43; (with_reducible refine f1.out.mono ?_); rintro e w1 ⟨rfl, fi1, hm1, ht1⟩; have HM := Lib.hid hm1; have HT := Lib.hid ht1; clear hm1 ht1)
    obtain ⟨x, y⟩ := box_rules HM.out.box
    have l := box_lt HM.out.box
    obtain ⟨rr, hrr⟩ : ∃ rr, wrap64 (rf + 1) = rr := ⟨_, rfl⟩
    go_wp2
    go_ret
    unfold RetMe
    rw [if_pos HF.out]
    have hT : Tn [b, g] w1 (w1.setCell ⟨b, 5, none⟩ (.int .i64 rr)) := (Tn.refl _ _).setCell (p := ⟨b, 5, none⟩) (by simp) _
    exact ⟨rfl, fi1, rr, ring, ⟨box_set (i := 5) HM.out.box _, (box_far HM.out.rng (by exact HM.out.ne.symm) _), HM.out.rlen, HM.out.m64, HM.out.fin, HM.out.len, HM.out.at'⟩, (HT.out.mono (by simp)).trans hT⟩
  · have HF := Lib.hid hf
    rw [decide_eq_false hf] at f1
    clear hf
    go_enter Tryd.func40, Tryd.ntmps40
    go_upto_region 7 with (go_at_call 43; (with_reducible refine f1.out.mono ?_); rintro e w1 ⟨rfl, fi1, hm1, ht1⟩; have HM := Lib.hid hm1; have HT := Lib.hid ht1; clear hm1 ht1)
    obtain ⟨x, y⟩ := box_rules HM.out.box
    have l := box_lt HM.out.box
    have hl2 : L2.length < many := by have h7 := HM.out.len; have h6 := HF.out; omega
    have HL2 := Lib.hid hl2
    have h64 := HM.out.m64
    have fP := Lib.hid (fun X (hX : MkM X b g many window L2 now fi1 rf ring) => mplace_any b g many window L2 now fi1 rf ring L2.length X hX (by omega))
    obtain ⟨j, hj⟩ : ∃ j, (fi1 + L2.length) % many = j := ⟨_, rfl⟩
    have hjm : j < many := by rw [← hj]; exact Nat.mod_lt _ (by omega)
    obtain ⟨c1, c2⟩ := HM.out.cell hjm
    rw [hj] at fP
    have HJ := Lib.hid hj
    obtain ⟨v, hv⟩ : ∃ v, now + window = v := ⟨_, rfl⟩
    have w1' : IntKind.i64.wrap (now + window) = v := by rw [hv]; exact IntWalk.i64_in _ (by omega)
    have w2' : wrap64 (now + window) = v := by rw [hv]; exact Go.IntWalk.wrap64_in _ (by omega)
    have HVv := Lib.hid hv
    have b1 : (0 : Int) ≤ (j : Int) := by omega
    have b2 : (j : Int) < (many : Int) := by omega
    have b3 : (j : Int).toNat = j := by omega
    have hlg := box_lt HM.out.rng
    have hne := HM.out.ne
    have HN := Lib.hid hne
    have hgm : g ∈ [g] := by simp
    have hRule : ∀ w', Hid (Tn [g] w1 w') → ∀ i, w'.cell? ⟨b, i, none⟩ = (#[.int .i64 window, .slice (some ⟨g, 0, none⟩) many many, .int .i64 fi1, .int .i64 (L2.length : Nat), .int .i64 now, .int .i64 rf] : Array Value)[i]? := fun w' ht => (box_rules (ht.out.box HM.out.box (fun hm => HN.out (List.mem_singleton.1 hm)))).1
    clear hj hv hl2 h64 hjm hw h1 hn0 f1 hne x y
    go_region_held3 (fun w' => Hid (Tn [g] w1 w')) ((refine Lib.hid ?_; repeat (with_reducible first | exact Tn.refl _ _ | refine Tn.setCell ?_ hgm _ | refine Tn.drew ?_ | refine Tn.drewN ?_ _))) ((first | (go_at_call 60; (with_reducible refine (fP.out _ HM.out.drew).mono ?_); rintro e w9 ⟨rfl, n9, rfl⟩)))
    have hE := box_far (p := ⟨g, j, none⟩) (HM.out.drewN (1 + n9)).box HN.out (.int .i64 v)
    have hG := box_set (i := j) (HM.out.drewN (1 + n9)).rng (.int .i64 v)
    have HE := Lib.hid hE
    have HG := Lib.hid hG
    obtain ⟨x, y⟩ := box_rules hE
    have lb := box_lt hE
    have hl3 := HL2.out
    have h64 := HM.out.m64
    clear hE hG hRule c1 c2 b1 b2 b3 w1' w2' hlg
    go_wp2
    go_ret
    unfold RetMe
    rw [if_neg HF.out]
    have hE2 := box_set (i := 3) HE.out (.int .i64 ((L2.length : Int) + 1))
    have hG2 := box_far (p := ⟨b, 3, none⟩) HG.out (by exact HN.out.symm) (.int .i64 ((L2.length : Int) + 1))
    have hT : Tn [b, g] w1 (((w1.drewN (1 + n9)).setCell ⟨g, j, none⟩ (.int .i64 v)).setCell ⟨b, 3, none⟩ (.int .i64 ((L2.length : Int) + 1))) := (((Tn.refl _ _).drewN _).setCell (p := ⟨g, j, none⟩) (by simp) _).setCell (p := ⟨b, 3, none⟩) (by simp) _
    refine ⟨rfl, fi1, rf, _, HM.out.push HL2.out now hE2 ?_, (HT.out.mono (by simp)).trans hT⟩
    rw [HJ.out, HVv.out, ← ints_set]
    exact hG2
end Go.Proofs.YtpncbkodhojicaaDoor

/- Package wheel: the walk of spread. Conditions: a wheel's memory. -/
import Derived.Test.YtiblpnadninmbaaGreatDoorWhGY
namespace Go.Proofs.YtiblpnadninmbaaGreatDoor
open Go.RowKit Go.Shelf
attribute [local go_sem] Oper.semAt_some

/-- A list's bit is as the list. -/
def BitOk (s : WhS) (k : Nat) : Prop := k < 256 → (s.fb (k / 64)).testBit (k % 64) = !decide (s.ls k = [])
theorem noteF_bit (s : WhS) (L n i : Nat) (hi : i < 64) (hn : n < 64) : (noteF s L n).testBit i = if i = n then !decide (s.ls (64 * L + n) = []) else (s.fb L).testBit i := by
  unfold noteF
  split
  · rename_i h
    rw [decide_eq_true h, Nat.testBit_and, compl_bit (pow_lt64 hn) i hi, Nat.testBit_two_pow]
    by_cases e : i = n
    · subst e; simp
    · rw [if_neg e]; have : ¬ n = i := fun h => e h.symm
      simp [this]
  · rename_i h
    rw [decide_eq_false h, Nat.testBit_or, Nat.testBit_two_pow]
    by_cases e : i = n
    · subst e; simp
    · rw [if_neg e]; have : ¬ n = i := fun h => e h.symm
      simp [this]
theorem note_bit {s : WhS} (_hf : FbL s) (k k' : Nat) (h : k' ≠ k → BitOk s k') : BitOk (noteS s k) k' := by
  intro hk'
  unfold noteS
  split
  · rename_i hk
    show (upF s.fb (k / 64) (noteF s (k / 64) (k % 64)) (k' / 64)).testBit (k' % 64) = !decide (s.ls k' = [])
    unfold upF
    by_cases e : k' / 64 = k / 64
    · rw [if_pos e, noteF_bit s _ _ _ (by omega) (by omega)]
      by_cases e2 : k' % 64 = k % 64
      · have e3 : k' = k := by omega
        subst e3
        rw [if_pos rfl, show 64 * (k' / 64) + k' % 64 = k' by omega]
      · rw [if_neg e2, ← e]
        exact h (fun e3 => e2 (by rw [e3])) hk'
    · rw [if_neg e]
      exact h (fun e3 => e (by rw [e3])) hk'
  · rename_i hk
    exact h (fun e => hk (by omega)) hk'
theorem noteS_ls (s : WhS) (k : Nat) : (noteS s k).ls = s.ls ∧ (noteS s k).now = s.now ∧ (noteS s k).ts = s.ts ∧ (noteS s k).M = s.M ∧ (noteS s k).sz = s.sz ∧ (noteS s k).pile = s.pile ∧ (noteS s k).turns = s.turns := by
  unfold noteS
  split <;> exact ⟨rfl, rfl, rfl, rfl, rfl, rfl, rfl⟩
/-- An entry goes to another list. -/
def movS (s : WhS) (k q9 : Nat) (i : Nat) (a b : List Nat) : WhS := { s with ls := upL (upL s.ls k (a ++ b)) q9 (upL s.ls k (a ++ b) q9 ++ [i]) }
/-- What spread has come to: those of done are where they belong. -/
structure SpI (s : WhS) (k : Nat) (done : List Nat) (s' : WhS) : Prop where
  now : s'.now = s.now
  turns : s'.turns = s.turns
  ts : s'.ts = s.ts
  M : s'.M = s.M
  sz : s'.sz = s.sz
  pile : s'.pile = s.pile
  fbl : FbL s'
  mem : ∀ k' i, i ∈ s'.ls k' ↔ (i ∈ s.ls k' ∧ ¬ (k' = k ∧ i ∈ done ∧ homeF s.now (s.ts.getD i tm0).at' ≠ k)) ∨ (i ∈ done ∧ homeF s.now (s.ts.getD i tm0).at' = k' ∧ k' ≠ k)
  bit : ∀ k', k' ≠ k → BitOk s' k'
theorem spI_nil {s : WhS} {k : Nat} (hf : FbL s) (hb : ∀ k', BitOk s k') : SpI s k [] s :=
  ⟨rfl, rfl, rfl, rfl, rfl, rfl, hf, fun k' i => by simp, fun k' _ => hb k'⟩
theorem spI_stay {s s' : WhS} {k i : Nat} {done : List Nat} (h : SpI s k done s') (ht : homeF s.now (s.ts.getD i tm0).at' = k) : SpI s k (done ++ [i]) s' := by
  refine ⟨h.now, h.turns, h.ts, h.M, h.sz, h.pile, h.fbl, fun k' j => ?_, h.bit⟩
  rw [h.mem]
  constructor
  · rintro (⟨h1, h2⟩ | ⟨h1, h2, h3⟩)
    · refine .inl ⟨h1, fun ⟨e1, e2, e3⟩ => ?_⟩
      rcases List.mem_append.1 e2 with e2 | e2
      · exact h2 ⟨e1, e2, e3⟩
      · obtain rfl := List.mem_singleton.1 e2
        exact e3 ht
    · exact .inr ⟨by simp [h1], h2, h3⟩
  · rintro (⟨h1, h2⟩ | ⟨h1, h2, h3⟩)
    · exact .inl ⟨h1, fun ⟨e1, e2, e3⟩ => h2 ⟨e1, by simp [e2], e3⟩⟩
    · rcases List.mem_append.1 h1 with h1 | h1
      · exact .inr ⟨h1, h2, h3⟩
      · obtain rfl := List.mem_singleton.1 h1
        exact absurd (h2.symm.trans ht) h3
theorem spI_move {s s' : WhS} {k i : Nat} {done a b : List Nat} (h : SpI s k done s') (ht : homeF s.now (s.ts.getD i tm0).at' ≠ k) (hi : i ∈ s.ls k) (hab : s'.ls k = a ++ i :: b) (hnd : (s'.ls k).Nodup) :
    SpI s k (done ++ [i]) (noteS (movS s' k (homeF s.now (s.ts.getD i tm0).at') i a b) (homeF s.now (s.ts.getD i tm0).at')) := by
  obtain ⟨q9, hto⟩ : ∃ q9, homeF s.now (s.ts.getD i tm0).at' = q9 := ⟨_, rfl⟩
  rw [hto] at ht ⊢
  obtain ⟨e1, e2, e3, e4, e5, e6, e7⟩ := noteS_ls (movS s' k q9 i a b) q9
  have hfb : FbL (movS s' k q9 i a b) := h.fbl
  have hia : i ∉ a ∧ i ∉ b := by
    rw [hab] at hnd
    obtain ⟨_, d2, d3⟩ := List.nodup_append.1 hnd
    exact ⟨fun hm => d3 i hm i (by simp) rfl, (List.nodup_cons.1 d2).1⟩
  have hls : ∀ k' j, j ∈ (movS s' k q9 i a b).ls k' ↔ (j ∈ s'.ls k' ∧ ¬ (k' = k ∧ j = i)) ∨ (k' = q9 ∧ j = i) := by
    intro k' j
    show j ∈ upL (upL s'.ls k (a ++ b)) q9 (upL s'.ls k (a ++ b) q9 ++ [i]) k' ↔ _
    have hk0 : ∀ k'', j ∈ upL s'.ls k (a ++ b) k'' ↔ (j ∈ s'.ls k'' ∧ ¬ (k'' = k ∧ j = i)) := by
      intro k''
      by_cases e : k'' = k
      · subst e
        rw [upL_eq, hab]
        constructor
        · intro hm
          refine ⟨by rcases List.mem_append.1 hm with h1 | h1 <;> simp [h1], fun ⟨_, e⟩ => ?_⟩
          subst e
          rcases List.mem_append.1 hm with h1 | h1
          · exact hia.1 h1
          · exact hia.2 h1
        · rintro ⟨h1, h2⟩
          have hne : j ≠ i := fun e => h2 ⟨rfl, e⟩
          rcases List.mem_append.1 h1 with h1 | h1
          · simp [h1]
          · rcases List.mem_cons.1 h1 with h1 | h1
            · exact absurd h1 hne
            · simp [h1]
      · rw [upL_ne e]
        constructor
        · exact fun h1 => ⟨h1, fun h2 => e h2.1⟩
        · exact fun h1 => h1.1
    by_cases e : k' = q9
    · subst e
      rw [upL_eq, List.mem_append, List.mem_singleton, hk0]
      simp
    · rw [upL_ne e, hk0]
      simp [e]
  refine ⟨e2.trans h.now, e7.trans h.turns, e3.trans h.ts, e4.trans h.M, e5.trans h.sz, e6.trans h.pile, noteS_fbl hfb, fun k' j => ?_, fun k' hk' => note_bit hfb _ _ (fun hne hk6 => ?_)⟩
  · rw [e1, hls, h.mem]
    constructor
    · rintro (⟨⟨h1, h2⟩ | ⟨h1, h2, h3⟩, h4⟩ | ⟨h1, h2⟩)
      · refine .inl ⟨h1, fun ⟨g1, g2, g3⟩ => ?_⟩
        rcases List.mem_append.1 g2 with g2 | g2
        · exact h2 ⟨g1, g2, g3⟩
        · exact h4 ⟨g1, List.mem_singleton.1 g2⟩
      · exact .inr ⟨by simp [h1], h2, h3⟩
      · subst h1 h2
        exact .inr ⟨by simp, hto, ht⟩
    · rintro (⟨h1, h2⟩ | ⟨h1, h2, h3⟩)
      · by_cases g : k' = k ∧ j = i
        · obtain ⟨rfl, rfl⟩ := g
          exact absurd ⟨rfl, by simp, by rw [hto]; exact ht⟩ h2
        · exact .inl ⟨.inl ⟨h1, fun ⟨g1, g2, g3⟩ => h2 ⟨g1, by simp [g2], g3⟩⟩, g⟩
      · rcases List.mem_append.1 h1 with h1 | h1
        · exact .inl ⟨.inr ⟨h1, h2, h3⟩, fun g => h3 g.1⟩
        · obtain rfl := List.mem_singleton.1 h1
          exact .inr ⟨h2.symm.trans hto, rfl⟩
  · show (s'.fb (k' / 64)).testBit (k' % 64) = !decide (upL (upL s'.ls k (a ++ b)) q9 (upL s'.ls k (a ++ b) q9 ++ [i]) k' = [])
    rw [upL_ne hne, upL_ne hk']
    exact h.bit k' hk' hk6
theorem rdN {w : World} {A : Option Addr} {l : List Nat} (h : Rd w A (vN l)) {j : Nat} (hj : j < l.length) : ∃ a, A = some a ∧ w.cell? (a.add j) = some (.int .i64 ((l.getD j 0 : Nat) : Int)) :=
  h j _ (by simp [vN, List.getElem?_map, List.getElem?_eq_getElem hj, List.getD])
theorem take_atN {α : Type} {d : α} : ∀ {l : List α} {k : Nat}, k < l.length → l.take (k + 1) = l.take k ++ [l.getD k d]
  | _ :: _, 0, _ => rfl
  | x :: l, k + 1, h => by
    show x :: l.take (k + 1) = (x :: l.take k) ++ [l.getD k d]
    rw [take_atN (l := l) (k := k) (d := d) (by simpa using h)]
    rfl
theorem getD_memN {l : List Nat} {j : Nat} (h : j < l.length) : l.getD j 0 ∈ l := by
  have : l.getD j 0 = l[j] := by simp [List.getD, h]
  rw [this]; exact List.getElem_mem h
theorem WhM.nd {w : World} {f : WhF} {room : Nat} {s : WhS} (h : WhM w f room s) {k : Nat} (hk : k < 258) : (s.ls k).Nodup ∧ (∀ i ∈ s.ls k, i < room) ∧ (s.ls k).length ≤ room := by
  obtain ⟨p, _, hp⟩ := h.pool
  exact ⟨hp.nl k hk, fun i hi => hp.in_lt hk hi, nodup_le _ _ (hp.nl k hk) (fun i hi => hp.in_lt hk hi)⟩
theorem not_in_take {l : List Nat} (hn : l.Nodup) {j : Nat} (hj : j < l.length) : l.getD j 0 ∉ l.take j := by
  intro hm
  have h1 : (l.take j ++ [l.getD j 0]).Nodup := by rw [← take_atN hj]; exact hn.sublist (List.take_sublist _ _)
  exact (List.nodup_append.1 h1).2.2 _ hm _ (by simp) rfl
set_option maxHeartbeats 8000000 in
set_option maxRecDepth 100000 in
theorem spread_any (f : WhF) (room : Nat) (s : WhS) (w : World) (k : Nat) (h : WhM w f room s) (hf : FbL s) (hr : room ≤ 4096) (hk : k < 258) (hat : ∀ i ∈ s.ls k, 0 ≤ (s.ts.getD i tm0).at' ∧ (s.ts.getD i tm0).at' ≤ 4503599627370496) (hb : ∀ k', BitOk s k') :
    Calls Tryz.prog 54 #[.pointer (some ⟨f.pw, 0, none⟩), .int .i64 k] w fun e w' => e = .returned (.tuple #[]) ∧ ∃ s', WhM w' f room s' ∧ SpI s k (s.ls k) s' ∧ (∀ k', BitOk s' k') ∧ Tn f.l w w' := by
  obtain ⟨hnd, hin, hlen⟩ := h.nd hk
  have f1 := Lib.hid (list_any k f.pp f.bl f.be room 258 s.pile s.ls w h.pool hk (by omega))
  have H := Lib.hid h
  have HS0 := Lib.hid (spI_nil (k := k) hf hb)
  have Hat := Lib.hid hat; have HNd := Lib.hid hnd; have HIn := Lib.hid hin
  have HFl := Lib.hid h.lt
  have hlen2 : (s.ls k).length ≤ 4096 := by omega
  unfold RetLs at f1
  obtain ⟨xx, xy⟩ := box_rules (h).box
  have xz := (box_rules (h).tm).2
  have lx := box_lt (h).box
  clear h hf hat hb hnd hin hlen
  go_enter Tryz.func54, Tryz.ntmps54
  go_upto_region 1 with (go_at_call 82; go_loud (refine f1.out.mono ?_; rintro e w1 ⟨A, c, rfl, hrd, hnew, hb1⟩; have HRd := Lib.hid hrd; have HNw := Lib.hid hnew; have HB1 := Lib.hid hb1; clear hrd hnew hb1))
  clear f1 xx xy xz lx
  have HA : Hid (∀ a, A = some a → a.block ∉ f.l) := Lib.hid (fun a ha hm => by
    have h1 := HNw.out a ha
    have h2 := HFl.out _ hm
    omega)
  have HM1 := Lib.hid (H.out.below HB1.out)
  have HT1 : Hid (Tn f.l w w1) := Lib.hid (Tn.of_below _ HB1.out)
  go_loopw [14] (fun ix wr => ∃ (j : Nat) (s' : WhS), j ≤ (s.ls k).length ∧ ix = .int .i64 j ∧ Hid (WhM wr f room s') ∧ Hid (SpI s k ((s.ls k).take j) s') ∧ Hid (Tn f.l w1 wr)) (fun ix _ => (s.ls k).length - (intOf ix).toNat)
  case atStart => exact ⟨0, s, by omega, rfl, HM1, HS0, Lib.hid (Tn.refl _ _)⟩
  case round =>
    obtain ⟨j, s', hj, rfl, HMj, HSj, HTj⟩ := hrel
    by_cases hlt : j < (s.ls k).length
    · obtain ⟨a, rfl, hc⟩ := rdN (HRd.out.tn HTj.out HA.out) hlt
      obtain ⟨i, hi⟩ : ∃ i, (s.ls k).getD j 0 = i := ⟨_, rfl⟩
      rw [hi] at hc
      have him : i ∈ s.ls k := by rw [← hi]; exact getD_memN hlt
      have hir := HIn.out i him
      have hni : i ∉ (s.ls k).take j := by rw [← hi]; exact not_in_take HNd.out hlt
      have HTk : Hid ((s.ls k).take (j + 1) = (s.ls k).take j ++ [i]) := Lib.hid (by rw [take_atN (d := 0) hlt, hi])
      obtain ⟨g1, g2⟩ := Hat.out i him
      have him' : i ∈ s'.ls k := (HSj.out.mem k i).2 (.inl ⟨him, fun h => hni h.2.1⟩)
      obtain ⟨a1, b1, hab⟩ := List.append_of_mem him'
      have HAB := Lib.hid hab
      have hts := HSj.out.ts; have hnow := HSj.out.now
      obtain ⟨x, hx, x1, x2, x3⟩ := HMj.out.tmAt hir
      rw [hts] at hx
      rw [hx] at g1 g2
      have f2 := Lib.hid (home_any f room s' wr x.at' HMj.out g1 g2)
      obtain ⟨q, hq⟩ : ∃ q, homeF s.now x.at' = q := ⟨_, rfl⟩
      rw [hnow, hq] at f2
      have hq258 : q < 258 := by rw [← hq]; exact home_lt
      have f3 := Lib.hid (fun n => move_any k q i a1 b1 f.pp f.bl f.be room 258 s'.pile s'.ls (wr.drewN n) (HMj.out.drewN n).pool hk hq258 hab)
      have f4 := Lib.hid (fun X (hX : WhM X f room (movS s' k q i a1 b1)) => note_all f room (movS s' k q i a1 b1) X q hX HSj.out.fbl)
      have HHom : Hid (homeF s.now (s.ts.getD i tm0).at' = q) := Lib.hid (by rw [hx]; exact hq)
      have Him := Lib.hid him
      obtain ⟨xx, xy⟩ := box_rules (HMj.out).box
      have xz := (box_rules (HMj.out).tm).2
      have lx := box_lt (HMj.out).box
      clear hi him him' hni hab hts hnow hx hq
      by_cases hqk : q = k
      · have t0 : ((q : Int) != (k : Int)) = false := by simp [hqk]
        have HSt := Lib.hid (show SpI s k ((s.ls k).take (j + 1)) s' by rw [HTk.out]; exact spI_stay HSj.out (HHom.out.trans hqk))
        clear hqk
        go_wp2_with (go_at_call 68; with_reducible refine f2.out.mono ?_; rintro e w2 ⟨rfl, n2, rfl⟩)
        refine ⟨⟨j + 1, s', by omega, by go_num, Lib.hid (HMj.out.drewN _), HSt, Lib.hid (HTj.out.drewN _)⟩, ?_⟩
        simp [intOf]; omega
      · have t0 : ((q : Int) != (k : Int)) = true := by simp; omega
        have HSt := Lib.hid (show SpI s k ((s.ls k).take (j + 1)) (noteS (movS s' k q i a1 b1) q) by
          rw [HTk.out]
          have h9 := spI_move (a := a1) (b := b1) HSj.out (fun e => hqk (HHom.out.symm.trans e)) Him.out HAB.out (HMj.out.nd hk).1
          rw [HHom.out] at h9
          exact h9)
        clear hqk
        go_wp2_with (first
          | (go_at_call 68; with_reducible refine f2.out.mono ?_; rintro e w2 ⟨rfl, n2, rfl⟩)
          | (go_at_call 83; go_loud ((with_reducible refine (f3.out _).mono ?_); rintro e w3 ⟨rfl, hp3, ht3⟩; have HM3 : Hid (WhM w3 f room (movS s' k q i a1 b1)) := Lib.hid ((HMj.out.drewN _).pool' ht3 hp3); have HT3 := Lib.hid ((HTj.out.drewN _).trans (tn_pool ht3)); clear hp3 ht3))
          | (go_at_call 70; with_reducible refine (f4.out _ HM3.out).mono ?_; rintro e w4 ⟨rfl, hm4, ht4⟩; have HM4 := Lib.hid hm4; have HT4 := Lib.hid (HT3.out.trans ht4); clear hm4 ht4))
        refine ⟨⟨j + 1, _, by omega, by go_num, HM4, HSt, HT4⟩, ?_⟩
        simp [intOf]; omega
    · obtain rfl : j = (s.ls k).length := by omega
      have f4 := Lib.hid (note_all f room s' wr k HMj.out HSj.out.fbl)
      have HEnd : Hid (SpI s k (s.ls k) (noteS s' k) ∧ ∀ k', BitOk (noteS s' k) k') := Lib.hid (by
        have h9 := HSj.out
        rw [List.take_length] at h9
        obtain ⟨e1, e2, e3, e4, e5, e6, e7⟩ := noteS_ls s' k
        exact ⟨⟨e2.trans h9.now, e7.trans h9.turns, e3.trans h9.ts, e4.trans h9.M, e5.trans h9.sz, e6.trans h9.pile, noteS_fbl h9.fbl, fun k' i => by rw [e1]; exact h9.mem k' i, fun k' hk' => note_bit h9.fbl _ _ (fun _ => h9.bit k' hk')⟩, fun k' => note_bit h9.fbl _ _ (fun hk' => h9.bit k' hk')⟩)
      obtain ⟨xx, xy⟩ := box_rules (HMj.out).box
      have xz := (box_rules (HMj.out).tm).2
      have lx := box_lt (HMj.out).box
      go_wp2_with (go_at_call 70; with_reducible refine f4.out.mono ?_; rintro e w4 ⟨rfl, hm4, ht4⟩; have HM4 := Lib.hid hm4; have HT4 := Lib.hid (HT1.out.trans (HTj.out.trans ht4)); clear hm4 ht4)
      go_end0
      exact ⟨rfl, _, HM4.out, HEnd.out.1, HEnd.out.2, HT4.out⟩
end Go.Proofs.YtiblpnadninmbaaGreatDoor

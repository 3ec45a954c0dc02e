/- Package irq: what Take leaves. No premise of its own. -/
import Derived.Test.YtpncbkodhojicaaDoorQaUIc
namespace Go.Proofs.YtpncbkodhojicaaDoor
open Go.RowKit Go.Shelf
variable {Bs : Nat → Prop}
/-- One line begins to be served: the state. -/
def beginS (s : Qs) (i : Nat) : Qs := { s.put i { s.ln i with pending := false, served := (s.ln i).served + 1 } with bs := s.bs ++ [⟨i, (s.ln i).top, (s.ln i).bottom⟩] }
theorem begin_enter {r : Qs} {i : Nat} {now : Int} (hi : i < r.ls.length) : beginS (r.put i ((r.ln i).enter now)) i = { r.put i { (r.ln i).enter now with pending := false, served := (r.ln i).served + 1 } with bs := r.bs ++ [⟨i, (r.ln i).top, (r.ln i).bottom⟩] } := by
  have h1 : (r.put i ((r.ln i).enter now)).ln i = (r.ln i).enter now := by rw [put_ln hi, if_pos rfl]
  have h2 : ((r.ln i).enter now).top = (r.ln i).top ∧ ((r.ln i).enter now).bottom = (r.ln i).bottom ∧ ((r.ln i).enter now).served = (r.ln i).served := by
    unfold Lq.enter; split <;> exact ⟨rfl, rfl, rfl⟩
  unfold beginS
  rw [h1, h2.1, h2.2.1, h2.2.2]
  unfold Qs.put
  dsimp only
  rw [List.set_set]
theorem begin_qIC {n : Nat} {s : Qs} (hI : QI n s) {i : Nat} (hi : i < s.ls.length) : qIC (beginS s i) = { qIC s with p := setB (qIC s).p i false, stack := (qIC s).stack ++ [(i : Int)] } := by
  have h1 := qIC_pend (x := { s.ln i with pending := false, served := (s.ln i).served + 1 }) hI hi rfl rfl
  have h2 : qIC (beginS s i) = { qIC (s.put i { s.ln i with pending := false, served := (s.ln i).served + 1 }) with stack := (s.bs ++ [(⟨i, (s.ln i).top, (s.ln i).bottom⟩ : Bq)]).map fun b => (b.line : Int) } := rfl
  rw [h2, h1, List.map_append]
  rfl
theorem begin_end {n i : Nat} {s : Qs} {f : IqF} {w3 w4 V4 V5 w6 : World} {o : Obj} {g : Nat} {pA3 : Option Addr} {pc3 : Nat} {tA3 : Option Addr} {tc3 : Nat} {pA4 : Option Addr} {pc4 : Nat} {sA4 : Option Addr} {sc4 : Nat} {A6 : Option Addr} {c6 : Nat} {sv : Int}
    (h3 : IqR Bs w3 f s pA3 pc3 tA3 tc3) (hI : QI n s) (hi : i < s.ls.length) (hg : f.lA = some ⟨g, 0, none⟩) (hb4 : Below w3.heap.size w3 w4) (hp4 : Rd w4 pA4 ((qIC s).prio.map (.int .i64))) (hs4 : Rd w4 sA4 (((qIC s).stack ++ [(i : Int)]).map (.int .i64))) (hn4 : New w3.heap.size pA4 sA4)
    (ht4 : Tn [f.p] w4 V4) (ht5 : Tn [g] V4 V5) (hsv : (s.ln i).served = sv) (hl5 : V5.ownsRow 0 77 5 (.slice (some ⟨g, 0, none⟩) s.ls.length f.lc) s.ls.length ((s.ls.set i { s.ln i with served := sv + 1 }).flatMap lmc))
    (hg6 : ((V5.alloc o).drew).grownBy w6 (Value.slice f.sA s.bs.length f.sc).ownBlock) (hat : (Value.slice A6 (s.bs.length + 1) c6).ownBlock = (Value.slice f.sA s.bs.length f.sc).ownBlock ∨ (Value.slice A6 (s.bs.length + 1) c6).ownBlock = some ((V5.alloc o).drew).heap.size)
    (ho6 : w6.ownsRow 0 92 3 (.slice A6 (s.bs.length + 1) c6) (s.bs.length + 1) (s.bs.flatMap bqc ++ [.int .i64 (i : Int), .int .i64 (s.ln i).top, .int .i64 (s.ln i).bottom]))
    (he6 : w6.heap[f.p]? = some (.cells #[.int .u64 ((setB (qIC s).p i false : Nat) : Int), .int .u64 (qIC s).e, .int .u64 (qIC s).r, .int .u64 (qIC s).g, .slice pA4 (qIC s).prio.length pc4, .int .i64 (qIC s).t, .slice sA4 ((qIC s).stack.length + 1) sc4, .slice f.lA s.ls.length f.lc, .slice f.sA s.bs.length f.sc, .int .u64 (mB s), .int .i64 s.last] 72 (0, 0))) :
    IqM Bs (w6.setCell ⟨f.p, 8, none⟩ (.slice A6 (s.bs.length + 1) c6)) { f with sA := A6, sc := c6 } (beginS s i) ∧ (∀ k ∈ qL { f with sA := A6, sc := c6 } (beginS s i), k ∈ qL f s ∨ w3.heap.size ≤ k) ∧ Tn (qL f s) w3 (w6.setCell ⟨f.p, 8, none⟩ (.slice A6 (s.bs.length + 1) c6)) := by
  obtain ⟨sb, hsb⟩ : ∃ sb, (Value.slice f.sA s.bs.length f.sc).ownBlock = sb := ⟨_, rfl⟩
  rw [hsb] at hg6 hat
  have hlt := h3.lt
  have hrows := h3.rows
  have hpq : f.p ∈ qL f s := mem_qL.2 (.inl rfl)
  have hgq : g ∈ qL f s := mem_qL.2 (.inr (.inl ⟨_, hg, rfl⟩))
  have hsq : ∀ k, sb = some k → k ∈ qL f s := fun k hk => by
    refine mem_qL.2 (.inr (.inr (.inl ?_)))
    cases ha : f.sA with
    | none => rw [ha] at hsb; rw [← hsb] at hk; cases hk
    | some a => rw [ha] at hsb; rw [← hsb] at hk; exact ⟨a, rfl, by injection hk⟩
  have F0 : ∀ k ∈ f.p :: g :: sb.toList, k ∈ qL f s := fun k hk => by
    rcases List.mem_cons.1 hk with rfl | hk
    · exact hpq
    · rcases List.mem_cons.1 hk with rfl | hk
      · exact hgq
      · exact hsq k (by simpa using hk)
  have z4 := hb4.size
  have z5 := ht4.size
  have z6 := ht5.size
  have hT4 : Tn (f.p :: g :: sb.toList) w4 (w6.setCell ⟨f.p, 8, none⟩ (.slice A6 (s.bs.length + 1) c6)) :=
    ((((ht4.mono (by simp)).trans (ht5.mono (by simp))).alloc o).drew.grown hg6 (fun k hk => .inl (by rw [hk]; simp))).setCell (p := ⟨f.p, 8, none⟩) (by simp) _
  have hT3 : Tn (f.p :: g :: sb.toList) w3 (w6.setCell ⟨f.p, 8, none⟩ (.slice A6 (s.bs.length + 1) c6)) := (Tn.of_below _ hb4).trans hT4
  have hmem : ∀ k ∈ qL { f with sA := A6, sc := c6 } (beginS s i), k ∈ qL f s ∨ k = (V5.alloc o).drew.heap.size := fun k hk => by
    have e1 : (beginS s i).ls.map (·.mb) = s.ls.map (·.mb) := put_map (x := { s.ln i with pending := false, served := (s.ln i).served + 1 }) (·.mb) hi rfl
    have e2 : (beginS s i).ls.map (·.mg) = s.ls.map (·.mg) := put_map (x := { s.ln i with pending := false, served := (s.ln i).served + 1 }) (·.mg) hi rfl
    unfold qL at hk
    rw [e1, e2] at hk
    rcases List.mem_cons.1 hk with rfl | hk
    · exact .inl hpq
    · rcases List.mem_append.1 hk with hk | hk
      · exact .inl (by unfold qL; exact List.mem_cons_of_mem _ (List.mem_append_left _ hk))
      · rcases List.mem_append.1 hk with hk | hk
        · have hk2 : (Value.slice A6 (s.bs.length + 1) c6).ownBlock = some k := by
            cases A6 with
            | none => simp at hk
            | some a => simp at hk; rw [hk]; rfl
          rcases hat with h | h
          · exact .inl (hsq k (h ▸ hk2))
          · rw [h] at hk2; injection hk2 with hk2; exact .inr hk2.symm
        · exact .inl (by unfold qL; exact List.mem_cons_of_mem _ (List.mem_append_right _ (List.mem_append_right _ hk)))
  have hsz : w4.heap.size ≤ (V5.alloc o).drew.heap.size := by simp; omega
  have hq := begin_qIC hI hi
  have hfar : ∀ a : Addr, w3.heap.size ≤ a.block → a.block < w4.heap.size → a.block ∉ qL { f with sA := A6, sc := c6 } (beginS s i) := fun a h1 h2 hm => by
    rcases hmem _ hm with h | h
    · have := hlt _ h; omega
    · omega
  have hout : ∀ a : Addr, w3.heap.size ≤ a.block → a.block ∉ f.p :: g :: sb.toList := fun a h1 hm => by have := hlt _ (F0 _ hm); omega
  have hpl : ∀ a, pA4 = some a → w3.heap.size ≤ a.block ∧ a.block < w4.heap.size := fun a ha => by
    refine ⟨hn4.1 a ha, ?_⟩
    obtain ⟨b, hb, hc⟩ := hp4.get (i := 0) (by rw [List.length_map]; have := (qIC_ok hI).len1; omega)
    rw [ha] at hb; cases hb
    exact Rd.lt hc
  have hsl : ∀ a, sA4 = some a → w3.heap.size ≤ a.block ∧ a.block < w4.heap.size := fun a ha => by
    refine ⟨hn4.2 a ha, ?_⟩
    obtain ⟨b, hb, hc⟩ := hs4.get (i := 0) (by rw [List.length_map, List.length_append]; simp)
    rw [ha] at hb; cases hb
    exact Rd.lt hc
  have hz4X := hT4.size
  refine ⟨⟨pA4, pc4, sA4, sc4, ?_⟩, fun k hk => (hmem k hk).imp id (fun h => by omega), hT3.mono F0⟩
  constructor
  · rw [hq]
    have h8 := box_set (i := 8) he6 (.slice A6 (s.bs.length + 1) c6)
    have e1 : (beginS s i).ls.length = s.ls.length := put_len ..
    have e2 : (beginS s i).bs.length = s.bs.length + 1 := by show (s.bs ++ [_]).length = _; rw [List.length_append]; rfl
    have e3 : mB (beginS s i) = mB s := mB_put (x := { s.ln i with pending := false, served := (s.ln i).served + 1 }) hi rfl
    show _ = some (Obj.cells #[_, _, _, _, _, _, .slice sA4 ((qIC s).stack ++ [(i : Int)]).length sc4, .slice f.lA (beginS s i).ls.length f.lc, .slice A6 (beginS s i).bs.length c6, .int .u64 (mB (beginS s i)), .int .i64 s.last] _ _)
    rw [e1, e2, e3, List.length_append]
    exact h8
  · rw [hq]
    exact hp4.tn hT4 (fun a ha => hout a (hpl a ha).1)
  · rw [hq]
    exact hs4.tn hT4 (fun a ha => hout a (hsl a ha).1)
  · exact fun a ha => ⟨Nat.lt_of_lt_of_le (hpl a ha).2 hz4X, hfar a (hpl a ha).1 (hpl a ha).2⟩
  · exact fun a ha _ => ⟨Nat.lt_of_lt_of_le (hsl a ha).2 hz4X, hfar a (hsl a ha).1 (hsl a ha).2⟩
  · have e1 : (beginS s i).ls.length = s.ls.length := put_len ..
    have e2 : (beginS s i).ls.flatMap lmc = (s.ls.set i { s.ln i with served := sv + 1 }).flatMap lmc := by
      show (s.ls.set i { s.ln i with pending := false, served := (s.ln i).served + 1 }).flatMap lmc = _
      rw [hsv, List.flatMap_def, List.flatMap_def, List.map_set, List.map_set]
      rfl
    show World.ownsRow _ 0 _ 5 (.slice f.lA (beginS s i).ls.length f.lc) (beginS s i).ls.length ((beginS s i).ls.flatMap lmc)
    rw [e1, e2, hg]
    have t5 : Tn (f.p :: sb.toList) V5 (w6.setCell ⟨f.p, 8, none⟩ (.slice A6 (s.bs.length + 1) c6)) := (((Tn.refl _ _).alloc o).drew.grown hg6 (fun k hk => .inl (by rw [hk]; simp))).setCell (p := ⟨f.p, 8, none⟩) (by simp) _
    refine own_tnq hl5 t5 (fun b hb hm => ?_)
    injection hb with hb
    rcases List.mem_cons.1 hm with h | h
    · exact hrows.1 _ hg (hb.trans h)
    · have h2 : sb = some b := by simpa using h
      cases ha : f.sA with
      | none => rw [ha] at hsb; rw [← hsb] at h2; cases h2
      | some a =>
        rw [ha] at hsb; rw [← hsb] at h2
        injection h2 with h2
        exact hrows.2.2 _ a hg ha (hb.trans h2.symm)
  · show World.ownsRow _ 0 _ 3 (.slice A6 (s.bs ++ [_]).length c6) (s.bs ++ [_]).length ((s.bs ++ [(⟨i, (s.ln i).top, (s.ln i).bottom⟩ : Bq)]).flatMap bqc)
    rw [List.length_append, List.flatMap_append]
    exact own_setK ho6 (fun hb => by
      rcases hat with h | h
      · rw [hb] at h
        cases ha : f.sA with
        | none => rw [ha] at hsb; rw [← hsb] at h; cases h
        | some a =>
          rw [ha] at hsb; rw [← hsb] at h
          injection h with h
          exact hrows.2.1 a ha h.symm
      · rw [hb] at h
        injection h with h
        have h9 := hlt _ hpq
        have h8 : f.p = (V5.alloc o).drew.heap.size := h
        omega) _
  · intro y hy
    obtain ⟨j, hj, rfl⟩ := List.getElem_of_mem hy
    have hj : j < s.ls.length := by have e1 : (beginS s i).ls.length = s.ls.length := put_len ..; omega
    have e1 : (beginS s i).ls[j] = (s.put i { s.ln i with pending := false, served := (s.ln i).served + 1 }).ln j := (ln_get (s := s.put i { s.ln i with pending := false, served := (s.ln i).served + 1 }) (by rw [put_len]; exact hj)).symm
    rw [put_ln hi] at e1
    have key : MkR (w6.setCell ⟨f.p, 8, none⟩ (.slice A6 (s.bs.length + 1) c6)) s.last (s.ln j) := by
      have hap := h3.apart (ln_mem hj)
      have no : ∀ k, (k = (s.ln j).mb ∨ k = (s.ln j).mg) → k ∉ f.p :: g :: sb.toList := fun k hk hm => by
        rcases List.mem_cons.1 hm with h | hm
        · rcases hk with e | e
          · exact hap.1.1 (e ▸ h)
          · exact hap.1.2 (e ▸ h)
        · rcases List.mem_cons.1 hm with h | hm
          · rcases hk with e | e
            · exact (hap.2.1 _ hg).1 (e ▸ h)
            · exact (hap.2.1 _ hg).2 (e ▸ h)
          · have h2 : sb = some k := by simpa using hm
            cases ha : f.sA with
            | none => rw [ha] at hsb; rw [← hsb] at h2; cases h2
            | some a =>
              rw [ha] at hsb; rw [← hsb] at h2
              injection h2 with h2
              rcases hk with e | e
              · exact (hap.2.2 _ ha).1 (by rw [← e]; exact h2.symm)
              · exact (hap.2.2 _ ha).2 (by rw [← e]; exact h2.symm)
      exact (h3.ms _ (ln_mem hj)).tn hT3 (no _ (.inl rfl)) (no _ (.inr rfl)) (Int.le_refl _)
    rw [e1]
    by_cases hji : j = i
    · subst hji
      rw [if_pos rfl]
      exact key
    · rw [if_neg hji]; exact key
  · have e1 : (beginS s i).ls.map (·.mb) = s.ls.map (·.mb) := put_map (x := { s.ln i with pending := false, served := (s.ln i).served + 1 }) (·.mb) hi rfl
    rw [e1]; exact h3.nb
  · have e2 : (beginS s i).ls.map (·.mg) = s.ls.map (·.mg) := put_map (x := { s.ln i with pending := false, served := (s.ln i).served + 1 }) (·.mg) hi rfl
    rw [e2]; exact h3.ng
  · exact fun a ha hB => by have h1 := (hpl a ha).1; have h2 := h3.bl _ hB; omega
  · exact fun a ha _ hB => by have h1 := (hsl a ha).1; have h2 := h3.bl _ hB; omega
  · exact fun b hb => Nat.lt_of_lt_of_le (h3.bl b hb) hT3.size
end Go.Proofs.YtpncbkodhojicaaDoor

/- The plain laws of a move in parts. No premise of its own. -/
import Derived.Test.YtiblpnadninmbaaDoorMvP
import Derived.Test.YtiblpnadninmbaaDoorRhA
namespace Go.Proofs.YtiblpnadninmbaaDoor

theorem zip_turn (L : List Du) (n : Nat) : (L.zipIdx n).Pairwise (fun a b => (a.2 : Int) < (b.2 : Int)) := by
  rw [List.pairwise_iff_getElem]
  intro i j hi hj hij
  rw [List.getElem_zipIdx, List.getElem_zipIdx]
  show ((n + i : Nat) : Int) < ((n + j : Nat) : Int)
  omega
theorem zip_fst (L : List Du) (n : Nat) : (L.zipIdx n).map (·.1) = L := by
  refine List.ext_getElem (by simp) fun i h1 h2 => ?_
  simp
theorem zip_fil (L : List Du) (p : Du → Bool) : ((L.zipIdx 0).filter (fun x => p x.1)).map (·.1) = L.filter p := by
  have h := List.filter_map (f := fun x : Du × Nat => x.1) (p := p) (l := L.zipIdx 0)
  rw [zip_fst] at h
  exact h.symm
/-- To move in two parts tells the same as at once. -/
theorem mv_parts {T1 T2 : Int} (h : T1 ≤ T2) (L : List Du) : mvD T2 L = mvD T1 L ++ mvD T2 (rsD T1 L) := by
  let f : Du × Nat → Int := fun x => x.1.at'
  let t : Du × Nat → Int := fun x => (x.2 : Int)
  let Z := L.zipIdx 0
  have hZ : Z.Pairwise (fun a b => t a < t b) := zip_turn L 0
  have hA : (srtG f (Z.filter fun x => decide (x.1.at' ≤ T1))).Pairwise (befT f t) := srtG_befT f t (hZ.filter _)
  have hB : (srtG f ((Z.filter fun x => decide (T1 < x.1.at')).filter fun x => decide (x.1.at' ≤ T2))).Pairwise (befT f t) := srtG_befT f t ((hZ.filter _).filter _)
  have hC : (srtG f (Z.filter fun x => decide (x.1.at' ≤ T2))).Pairwise (befT f t) := srtG_befT f t (hZ.filter _)
  have hAB : (srtG f (Z.filter fun x => decide (x.1.at' ≤ T1)) ++ srtG f ((Z.filter fun x => decide (T1 < x.1.at')).filter fun x => decide (x.1.at' ≤ T2))).Pairwise (befT f t) := by
    refine List.pairwise_append.2 ⟨hA, hB, fun a ha b hb => ?_⟩
    have h1 := (List.mem_filter.1 ((srtG_perm _ _).mem_iff.1 ha)).2
    have h2 := (List.mem_filter.1 (List.mem_filter.1 ((srtG_perm _ _).mem_iff.1 hb)).1).2
    simp only [decide_eq_true_eq] at h1 h2
    exact .inl (show a.1.at' < b.1.at' by omega)
  have hp : (srtG f (Z.filter fun x => decide (x.1.at' ≤ T2))).Perm (srtG f (Z.filter fun x => decide (x.1.at' ≤ T1)) ++ srtG f ((Z.filter fun x => decide (T1 < x.1.at')).filter fun x => decide (x.1.at' ≤ T2))) := by
    refine (srtG_perm _ _).trans (.trans ?_ ((srtG_perm _ _).append (srtG_perm _ _)).symm)
    refine .trans (List.filter_append_perm (fun x : Du × Nat => decide (x.1.at' ≤ T1)) (Z.filter fun x => decide (x.1.at' ≤ T2))).symm (List.Perm.of_eq ?_)
    rw [List.filter_filter, List.filter_filter, List.filter_filter]
    congr 1
    · refine List.filter_congr fun x _ => ?_
      rw [Bool.eq_iff_iff]; simp; omega
    · refine List.filter_congr fun x _ => ?_
      rw [Bool.eq_iff_iff]; simp; omega
  have he := congrArg (List.map (fun x : Du × Nat => x.1)) (befT_one hC hAB hp)
  rw [List.map_append, srtG_map (f' := Du.at') (fun _ => rfl), srtG_map (f' := Du.at') (fun _ => rfl), srtG_map (f' := Du.at') (fun _ => rfl), zip_fil L (fun x => decide (x.at' ≤ T2)), zip_fil L (fun x => decide (x.at' ≤ T1))] at he
  unfold mvD rsD
  rw [he, List.filter_filter]
  congr 2
  rw [List.filter_filter]
  exact zip_fil L (fun x => decide (x.at' ≤ T2) && decide (T1 < x.at'))
theorem rs_parts {T1 T2 : Int} (h : T1 ≤ T2) (L : List Du) : rsD T2 (rsD T1 L) = rsD T2 L := by
  unfold rsD
  rw [List.filter_filter]
  refine List.filter_congr fun x _ => ?_
  rw [Bool.eq_iff_iff]; simp; omega
theorem mv_mem {T : Int} {L : List Du} {x : Du} : x ∈ mvD T L ↔ x ∈ L ∧ x.at' ≤ T := by
  unfold mvD
  rw [(srtG_perm _ _).mem_iff, List.mem_filter]
  simp
theorem rs_mem {T : Int} {L : List Du} {x : Du} : x ∈ rsD T L ↔ x ∈ L ∧ T < x.at' := by
  unfold rsD
  rw [List.mem_filter]
  simp
/-- Ahead of the next one none is told. -/
theorem mv_nil {T : Int} {L : List Du} (h : ∀ x ∈ L, T < x.at') : mvD T L = [] ∧ rsD T L = L := by
  refine ⟨List.eq_nil_iff_forall_not_mem.2 fun x hx => ?_, List.filter_eq_self.2 fun x hx => by simpa using h x hx⟩
  obtain ⟨h1, h2⟩ := mv_mem.1 hx
  have := h x h1
  omega
/-- The first that is told is the next one. -/
theorem mv_head {T : Int} {L : List Du} (hb : ∀ x ∈ L, x.at' ≤ 4503599627370496) (hne : L ≠ []) (hT : minD 4503599627370496 L ≤ T) : 0 < (mvD T L).length ∧ ((mvD T L).getD 0 du0).at' = minD 4503599627370496 L := by
  obtain ⟨x, hx, hxm⟩ : ∃ x ∈ L, x.at' = minD 4503599627370496 L := by
    rcases minD_in L 4503599627370496 with h | ⟨x, h1, h2⟩
    · obtain ⟨x, l, rfl⟩ := List.exists_cons_of_ne_nil hne
      have h1 := hb x (List.mem_cons_self ..)
      have h2 := minD_at (x := x) (x :: l) 4503599627370496 (List.mem_cons_self ..)
      exact ⟨x, List.mem_cons_self .., by omega⟩
    · exact ⟨x, h1, h2.symm⟩
  have hm : x ∈ mvD T L := mv_mem.2 ⟨hx, by omega⟩
  have hu := srtG_up (f := Du.at') (l := L.filter fun x => decide (x.at' ≤ T)) List.Pairwise.nil
  change (mvD T L).Pairwise _ at hu
  cases hq : mvD T L with
  | nil => rw [hq] at hm; cases hm
  | cons y l =>
    rw [hq] at hm hu
    refine ⟨by simp, ?_⟩
    show y.at' = _
    have hy := (mv_mem (T := T)).1 (show y ∈ mvD T L by rw [hq]; exact List.mem_cons_self ..)
    have h1 := minD_at (x := y) L 4503599627370496 hy.1
    rcases List.mem_cons.1 hm with rfl | hm
    · exact hxm
    · have := (List.pairwise_cons.1 hu).1 x hm
      omega
end Go.Proofs.YtiblpnadninmbaaDoor

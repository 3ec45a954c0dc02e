/- Package wheel: the sort that told asks for. Conditions: a row of the call's own; the kit's contract for slices.SortFunc at structs. -/
import Derived.Test.YtiblpnadninmbaaDoorWhO
import Derived.Test.YtiblpnadninmbaaDoorShelf
namespace Go.Proofs.YtiblpnadninmbaaDoor
open Go.RowKit Go.Shelf Go.Sort
attribute [local go_sem] Oper.semAt_some

theorem three_grow (w : World) (o1 o2 o3 : Obj) : ∃ q os', (((w.alloc o1).alloc o2).alloc o3).drew = Go.Sort.grow (w.drewN q) os' :=
  ⟨1, _, by rw [Go.Sort.alloc_eq_grow, Go.Sort.alloc_eq_grow, Go.Sort.alloc_eq_grow, Go.Sort.grow_grow, Go.Sort.grow_grow]; rfl⟩
set_option maxHeartbeats 4000000 in
set_option maxRecDepth 100000 in
/-- The order of two timers, and what it makes. -/
theorem before_grow (a b : Tm) (w : World) : Calls Tryd.prog 77 #[tmv a, tmv b] w fun e w' => e = .returned (.int .i64 (befF a b)) ∧ ∃ q os', w' = Go.Sort.grow (w.drewN q) os' := by
  have f1 := Lib.hid (fun x y X => cmp_i64 x y X)
  have f2 := Lib.hid (fun x y X => cmp_i x y X)
  have f3 := Lib.hid (fun u v g X h0 h1 => or_any u v g X h0 h1)
  have HB : Hid (befF a b = orI (cmpI a.at' b.at') (cmpI a.turn b.turn)) := Lib.hid rfl
  generalize befF a b = r at *
  unfold tmv
  go_enter Tryd.func77, Tryd.ntmps77
  go_upto_region 1 with fail
  refine name_world fun V hV => ?_
  have HV := Lib.hid hV
  have hV0 : V.heap[w.heap.size]? = some (.cells #[.int .i64 a.id, .int .i64 a.at', .int .i64 a.turn] 140 (0, 0)) := by rw [hV]; exact box_alloc (heap_alloc_new _ _) _
  have hV1 : V.heap[w.heap.size + 1]? = some (.cells #[.int .i64 b.id, .int .i64 b.at', .int .i64 b.turn] 140 (0, 0)) := by rw [hV]; exact heap_new_at _ (by simp)
  clear hV
  obtain ⟨ax, ay⟩ := box_rules hV0
  obtain ⟨bx, by'⟩ := box_rules hV1
  have la := box_lt hV0; have lb := box_lt hV1
  clear hV0 hV1
  obtain ⟨g0, hg0⟩ : ∃ g0, w.heap.size = g0 := ⟨_, rfl⟩
  have HG0 := Lib.hid hg0
  rw [hg0] at ax ay bx by' la lb
  clear hg0
  have hS0 : Hid (Below V.heap.size V V) := Lib.hid (Below.refl _ _)
  have hA := fun w' (h : Hid (Below V.heap.size V w')) => (bcell h.out).1 g0
  have hA2 := fun w' (h : Hid (Below V.heap.size V w')) i => (bcell h.out).1 g0 i la
  have hB2 := fun w' (h : Hid (Below V.heap.size V w')) i => (bcell h.out).1 (g0 + 1) i lb
  simp only [ax] at hA2
  simp only [bx] at hB2
  clear hA
  rw [HG0.out]
  go_region_held3 (fun w' => Hid (Below V.heap.size V w')) ((first | assumption | exact S_drewW (by assumption) | exact S_allocW (by assumption) _)) ((first
    | (go_at_call 100; (with_reducible refine (f1.out _ _ _).mono ?_); rintro e w' ⟨rfl, rfl⟩)
    | (go_at_call 101; (with_reducible refine (f2.out _ _ _).mono ?_); rintro e w' ⟨rfl, rfl⟩)
    | (go_at_call 99; refine (f3.out (cmpI a.at' b.at') (cmpI a.turn b.turn) V.heap.size _ (by exact new_cell (w := V) rfl) (by exact new_cell (w := V) rfl)).mono ?_; rintro e w' ⟨rfl, rfl⟩)))
  all_goals
    go_wp2
    go_ret
    exact ⟨by rw [HB.out]; rfl, by rw [HV.out]; exact three_grow _ _ _ _⟩
theorem cmpLays_tm [Inhabited Tm] (blk off size : Nat) (w : World) : CmpLays Tryd.prog 77 #[] tmc 3 befF blk off size w := fun _ _ _ _ x y => before_grow x y _
theorem swo_tm : Go.Sort.SWO (ltOf befF) := by
  have hlt : ∀ x y, ltOf befF x y = decide (x.at' < y.at' ∨ (x.at' = y.at' ∧ x.turn < y.turn)) := fun x y => by
    show decide (befF x y < 0) = _
    rw [Bool.eq_iff_iff]
    simp only [decide_eq_true_eq]
    exact bef_iff x y
  exact ⟨fun x => by rw [hlt]; simp, fun x y z h1 h2 => by rw [hlt] at *; simp at *; omega, fun x y z h1 h2 => by rw [hlt] at *; simp at *; omega⟩
theorem tmc_len (l : List Tm) : (l.flatMap tmc).length = l.length * 3 := by
  induction l with
  | nil => rfl
  | cons x l ih => rw [List.flatMap_cons, List.length_append, ih]; simp [tmc]; omega
theorem tmc_one (l : List Tm) : ∀ u ∈ l.flatMap tmc, u.oneCell' = true := fun u hu => by
  obtain ⟨x, _, h⟩ := List.mem_flatMap.1 hu
  simp [tmc] at h
  rcases h with rfl | rfl | rfl <;> rfl
theorem flatK_tm [Inhabited Tm] (l : List Tm) : flatK tmc 3 l.toArray = (l.flatMap tmc).toArray := by
  refine Array.ext (by rw [size_flatK, List.size_toArray, List.size_toArray, tmc_len]) fun t h1 h2 => ?_
  have h3 : t < l.length * 3 := by simpa using h1
  have e := get_flatK tmc 3 l.toArray t (by simpa using h3)
  rw [getElem!_pos _ t h1] at e
  rw [e]
  have hd : t / 3 < l.length := by omega
  have hm : t % 3 < 3 := Nat.mod_lt _ (by omega)
  have hg := flat_get (f := tmc) (k := 3) (fun _ => rfl) tm0 l (t / 3) hd (t % 3) hm
  rw [show t / 3 * 3 + t % 3 = t by omega] at hg
  have h4 : t < (l.flatMap tmc).length := by rw [tmc_len]; exact h3
  have hg1 : some ((l.flatMap tmc)[t]) = (tmc (l.getD (t / 3) tm0))[t % 3]? := by
    rw [← List.getElem?_eq_getElem h4]; exact hg
  have e2 : l.toArray[t / 3]! = l.getD (t / 3) tm0 := by
    rw [getElem!_pos _ (t / 3) (by simpa using hd)]
    simp [List.getD, hd]
  rw [e2]
  have hlen : t % 3 < (tmc (l.getD (t / 3) tm0)).length := hm
  rw [List.getElem?_eq_getElem hlen] at hg1
  injection hg1 with hg1
  rw [getElem!_pos _ (t % 3) hlen]
  exact hg1.symm
theorem own_holdsV {w : World} {base g n c k : Nat} {e : TypeId} {vs : List Value} (h : w.ownsRow base e k (.slice (some ⟨g, 0, none⟩) n c) n vs) : Go.Sort.Holds id w g 0 vs.toArray := fun j hj => by
  have hj' : j < vs.length := by simpa using hj
  obtain ⟨a, ha, hc⟩ := own_rdK h j _ (List.getElem?_eq_getElem hj')
  cases ha
  rw [add_zero_lit] at hc
  refine ⟨?_, ?_⟩
  · rw [hc, getElem!_pos _ j hj]
    rfl
  · rcases h.2 with ⟨h1, _⟩ | ⟨g', cap, cur, h1, _, h3, _⟩
    · cases h1
    · injection h1 with h1
      injection h1 with h1
      injection h1 with h1
      subst h1
      exact (box_rules h3).2 _
theorem own_sortV {w : World} {base g n c q k : Nat} {e : TypeId} {zs ys : List Value} {os : Array Obj} (h : w.ownsRow base e k (.slice (some ⟨g, 0, none⟩) n c) n zs) (hl : ys.length = zs.length) :
    (Go.Sort.grow (Go.Sort.putRow id (Go.Sort.ahead w q) g 0 ys.toArray) os).ownsRow base e k (.slice (some ⟨g, 0, none⟩) n c) n ys ∧
    Tn [g] w (Go.Sort.grow (Go.Sort.putRow id (Go.Sort.ahead w q) g 0 ys.toArray) os) := by
  have hn := h.1
  have hb : ∀ b, b ≠ g → b < w.heap.size → (Go.Sort.grow (Go.Sort.putRow id (Go.Sort.ahead w q) g 0 ys.toArray) os).heap[b]? = w.heap[b]? := fun b hne hlt => by
    show (((w.heap.modify g (Go.Sort.onCells _)) ++ os)[b]?) = _
    rw [Array.getElem?_append_left (by simpa using hlt), Array.getElem?_modify]
    rw [if_neg (fun e => hne e.symm)]
  refine ⟨⟨by rw [hl]; exact hn, ?_⟩, rfl, rfl, rfl, ?_, fun b hlt hne => hb b (by simpa using hne) hlt⟩
  · rcases h.2 with ⟨h1, _⟩ | ⟨g', cap, cur, h1, h2, h3, h4, h5, h6, h7⟩
    · cases h1
    · injection h1 with h1 h8 h9
      injection h1 with h1
      injection h1 with h1
      subst h1 h9
      have hlt : g < w.heap.size := box_lt h3
      refine .inr ⟨g, c, Go.Sort.putCells id 0 ys.toArray cur, rfl, h2, ?_, h4, h5, by unfold Go.Sort.putCells; simpa using h6, ?_⟩
      · show (((w.heap.modify g (Go.Sort.onCells _)) ++ os)[g]?) = _
        rw [Array.getElem?_append_left (by simpa using hlt), Array.getElem?_modify, if_pos rfl, h3]
        rfl
      · have hc : cur.size = c * k := by simpa using h6
        have hnc : n * k ≤ c * k := Nat.mul_le_mul_right _ h4
        unfold Go.Sort.putCells
        refine List.ext_getElem (by simp; omega) fun i i1 i2 => ?_
        have hi : i < ys.length := by simpa using i2
        simp [hi]
  · show w.heap.size ≤ ((w.heap.modify g (Go.Sort.onCells _)) ++ os).size
    simp
theorem sort_out [Inhabited Tm] {d d' : Array Tm} (hp : Go.Sort.PermIn 0 d.size d d') (hs : Go.Sort.SortedIn (ltOf befF) 0 d.size d') : d'.toList.Perm d.toList ∧ d'.toList.Pairwise (fun x y => ¬ befF y x < 0) := by
  obtain ⟨hsz, _, hperm⟩ := hp
  have e1 : d'.extract 0 d.size = d' := by rw [← hsz]; exact Array.extract_size
  rw [e1, Array.extract_size] at hperm
  refine ⟨hperm, ?_⟩
  rw [List.pairwise_iff_getElem]
  intro i j hi hj hij
  have hi' : i < d'.size := by simpa using hi
  have hj' : j < d'.size := by simpa using hj
  have := hs i j (Nat.zero_le _) hij (by omega)
  rw [getElem!_pos d' j hj', getElem!_pos d' i hi'] at this
  intro h9
  have h8 : ltOf befF d'[j] d'[i] = true := by
    show decide (befF d'[j] d'[i] < 0) = true
    simpa using h9
  rw [this] at h8
  cases h8
/-- A row of timers is sorted in its place. -/
theorem tsort_any {w : World} {base g cap : Nat} {ts : List Tm} (hn : ts.length ≤ 4096) (ho : w.ownsRow base 140 3 (.slice (some ⟨g, 0, none⟩) ts.length cap) ts.length (ts.flatMap tmc)) :
    Calls Tryd.prog 95 #[.slice (some ⟨g, 0, none⟩) ts.length cap, .func (.func 77) #[] #[]] w fun e w' =>
      e = .returned (.tuple #[]) ∧ ∃ zs : List Tm, zs.Perm ts ∧ zs.Pairwise (fun x y => ¬ befF y x < 0) ∧ w'.ownsRow base 140 3 (.slice (some ⟨g, 0, none⟩) ts.length cap) ts.length (zs.flatMap tmc) ∧ Tn [g] w w' := by
  letI : Inhabited Tm := ⟨tm0⟩
  have hg : g < w.heap.size := (own_blockK ho rfl).2.1
  have hH : HoldsK tmc 3 w g 0 ts.toArray := by
    unfold HoldsK
    rw [flatK_tm]
    exact own_holdsV ho
  have hS := Tryd.slices_SortFunc_cells tmc (fun _ => rfl) (fun x v hv => tmc_one [x] v (by simpa using hv)) befF swo_tm 77 #[] g 0 cap ts.toArray w (enters_of Tryd.func77 (by kernel_rfl) rfl) (cmpLays_tm g 0 _ w) hH hg (by simp; omega)
  rw [List.size_toArray] at hS
  refine hS.mono ?_
  rintro e w' ⟨rfl, d', n, os, hp, hs, rfl⟩
  have hsz : ts.toArray.size = ts.length := by simp
  rw [← hsz] at hp hs
  obtain ⟨p1, p2⟩ := sort_out hp hs
  refine ⟨rfl, d'.toList, p1, p2, ?_⟩
  have e : sortWorldK tmc 3 w g 0 n d' os = Go.Sort.grow (Go.Sort.putRow id (Go.Sort.ahead w n) g 0 (d'.toList.flatMap tmc).toArray) os := by
    unfold sortWorldK putRowK
    rw [← flatK_tm]
  rw [e]
  exact own_sortV ho (by rw [tmc_len, tmc_len]; have := p1.length_eq; simp at this ⊢; omega)
end Go.Proofs.YtiblpnadninmbaaDoor

/- Package pool: the walk of New. Conditions: none. -/
import Derived.Test.YtiblpnadninmbaaGreatDoorPlC
import Derived.BigRegion
import Derived.Laws.MakeOwn
namespace Go.Proofs.YtiblpnadninmbaaGreatDoor
open Go.RowKit
attribute [local go_sem] Oper.semAt_some

def rm {α : Type} (n : Nat) (f : Nat → α) : List α := (List.range n).map f
section
variable {α : Type} {n : Nat} {f g : Nat → α} {d : α}
theorem rm_len : (rm n f).length = n := by unfold rm; simp
theorem rm_get {i : Nat} (h : i < n) : (rm n f).getD i d = f i := by unfold rm; simp [List.getD, h]
theorem rm_congr (h : ∀ i, i < n → f i = g i) : rm n f = rm n g := List.map_congr_left fun i hi => h i (List.mem_range.1 hi)
theorem rm_set {i : Nat} {v : α} : (rm n f).set i v = rm n (fun x => if x = i then v else f x) := by
  apply List.ext_getElem?
  intro j
  unfold rm
  rw [List.getElem?_set]
  by_cases e : i = j
  · subst e
    by_cases h : i < n
    · simp [h]
    · simp [h]
  · have e2 : ¬ j = i := fun h => e h.symm
    by_cases h : j < n
    · simp [h, e, e2]
    · simp [h, e]
theorem rm_rep : List.replicate n d = rm n (fun _ => d) := by
  unfold rm
  apply List.ext_getElem?
  intro j
  by_cases h : j < n <;> simp [h]
end
theorem made_flat {α : Type} {f : α → List Value} {k : Nat} (hk : ∀ x, (f x).length = k) (h0 : 0 < k) {d : α} {z : Array Value} (hz : z.toList = f d) (n : Nat) : madeCells z (n * k) = ⟨(rm n (fun _ => d)).flatMap f⟩ := by
  have hzs : z.size = k := by rw [← Array.length_toList, hz, hk]
  have hlen : ∀ l : List α, (l.flatMap f).length = l.length * k := fun l => by
    induction l with
    | nil => simp
    | cons x l ih => rw [List.flatMap_cons, List.length_append, ih, hk, List.length_cons, Nat.add_mul]; omega
  apply Array.ext'
  apply List.ext_getElem?
  intro i
  show (madeCells z (n * k)).toList[i]? = ((rm n (fun _ => d)).flatMap f)[i]?
  by_cases hi : i < n * k
  · have hd : i / k < n := Nat.div_lt_of_lt_mul (by rw [Nat.mul_comm]; exact hi)
    have hm : i % k < k := Nat.mod_lt _ h0
    have e : i = (i / k) * k + i % k := by rw [Nat.mul_comm]; exact (Nat.div_add_mod i k).symm
    have g := flat_get (f := f) (k := k) hk d (rm n (fun _ => d)) (i / k) (by rw [rm_len]; exact hd) (i % k) hm
    rw [← e, rm_get hd, ← hz] at g
    rw [g]
    have hz2 : i % k < z.size := by omega
    simp only [madeCells, hzs, Array.toList_map, Array.toList_range, List.getElem?_map, List.getElem?_range hi, Option.map_some, getElem!_pos z (i % k) hz2, Array.getElem?_toList, Array.getElem?_eq_getElem hz2]
  · rw [List.getElem?_eq_none (by simp [madeCells]; omega), List.getElem?_eq_none (by rw [hlen, rm_len]; omega)]
theorem run_makeK {P : Program} (t e : TypeId) (z : Value) (k bytes : Nat) (ht : P.underlying t = some (.slice e)) (hinfo : (P.info? e).map (fun i => (i.zero, i.size, i.bytes)) = some (some z, k, bytes)) (n : Nat) (hb : bytes * n ≤ 281474976710656) (h63 : n ≤ 1099511627776) (w : World) :
    (Instr.makeSlice t (.int .i64 (n : Int)) (.int .i64 (n : Int))).run P w = .ok (.slice (some ⟨w.heap.size, 0, none⟩) n n) (w.alloc (.cells (madeCells z.cells (n * k)) e)) := by
  obtain ⟨i, hi, hzz⟩ := Option.map_eq_some_iff.1 hinfo
  simp only [Prod.mk.injEq] at hzz
  obtain ⟨h1, h2, h3⟩ := hzz
  subst h2 h3
  have h := run_make (P := P) w t e i z ht hi h1 .i64 .i64 (n : Int) (n : Int) (by omega) (Int.le_refl _) (by have : ((i.bytes * n : Nat) : Int) ≤ 281474976710656 := by omega
                                                                                                              rwa [Int.natCast_mul] at this) (by omega)
  simpa using h
def lkG (n j : Nat) : List Lk := rm n (fun i => if i < j then ⟨-1, -1, (i : Int) + 1⟩ else lk0)
def enG (m j : Nat) : List En := rm m (fun i => if i < j then ⟨-1, -1⟩ else en0)
theorem lkG_set (n j : Nat) : (lkG n j).set j ⟨-1, -1, (j : Int) + 1⟩ = lkG n (j + 1) := by
  unfold lkG
  rw [rm_set]
  refine rm_congr fun i _ => ?_
  by_cases e : i = j
  · subst e; rw [if_pos rfl, if_pos (by omega)]
  · rw [if_neg e]
    by_cases h : i < j
    · rw [if_pos h, if_pos (by omega)]
    · rw [if_neg h, if_neg (by omega)]
theorem enG_set (m j : Nat) : (enG m j).set j ⟨-1, -1⟩ = enG m (j + 1) := by
  unfold enG
  rw [rm_set]
  refine rm_congr fun i _ => ?_
  by_cases e : i = j
  · subst e; rw [if_pos rfl, if_pos (by omega)]
  · rw [if_neg e]
    by_cases h : i < j
    · rw [if_pos h, if_pos (by omega)]
    · rw [if_neg h, if_neg (by omega)]
def lkN (n : Nat) : List Lk := rm n (fun i => ⟨-1, -1, if i + 1 < n then (i : Int) + 1 else -1⟩)
theorem lkG_last (n : Nat) : (lkG (n + 1) (n + 1)).set n { (lkG (n + 1) (n + 1)).getD n lk0 with behind := -1 } = lkN (n + 1) := by
  unfold lkG lkN
  rw [rm_set, rm_get (by omega)]
  refine rm_congr fun i hi => ?_
  rw [if_pos hi, if_pos (show n < n + 1 by omega)]
  by_cases e : i = n
  · subst e; rw [if_pos rfl, if_neg (by omega)]
  · rw [if_neg e, if_pos (by omega)]
theorem pile_new (n : Nat) : ∀ j, j ≤ n → Pile (lkN n) ((List.range n).drop (n - j))
  | 0, _ => by rw [Nat.sub_zero, List.drop_of_length_le (by simp)]; trivial
  | j + 1, h => by
    have hlt : n - (j + 1) < (List.range n).length := by simp; omega
    rw [List.drop_eq_getElem_cons hlt, List.getElem_range, show n - (j + 1) + 1 = n - j by omega]
    refine ⟨by unfold lkN; rw [rm_len]; omega, ?_, pile_new n j (by omega)⟩
    unfold lkN
    rw [rm_get (by omega)]
    by_cases e : n - (j + 1) + 1 < n
    · rw [if_pos e, show n - j = n - (j + 1) + 1 by omega, List.drop_eq_getElem_cons (by simp; omega), List.getElem_range]
      rfl
    · rw [if_neg e, List.drop_of_length_le (by simp; omega)]
      rfl
theorem poI_new {n m : Nat} (hn : 0 < n) : PoI ⟨lkN n, enG m m, 0, n⟩ n m (List.range n) (fun _ => []) := by
  refine ⟨rm_len, rm_len, ?_, by simp, by have := pile_new n n (Nat.le_refl _); rwa [Nat.sub_self, List.drop_zero] at this, fun k hk => ?_, fun _ _ => trivial, List.nodup_range, fun _ _ => List.nodup_nil, fun _ _ _ h => (by cases h), fun _ _ _ _ _ h => (by cases h)⟩
  · obtain ⟨j, rfl⟩ : ∃ j, n = j + 1 := ⟨n - 1, by omega⟩
    rw [List.range_succ_eq_map]; rfl
  · show (enG m m).getD k en0 = _
    unfold enG
    rw [rm_get hk, if_pos hk]; rfl
def RetPool (n m : Nat) (w : World) (e : Ending) (w' : World) : Prop := ∃ pp bl be, e = .returned (.tuple #[.pointer (some ⟨pp, 0, none⟩), .int .i64 0]) ∧ w.heap.size ≤ pp ∧ w.heap.size ≤ bl ∧ w.heap.size ≤ be ∧ PoolAt w' pp bl be n m (List.range n) (fun _ => []) ∧ Below w.heap.size w w'
set_option maxHeartbeats 4000000 in
set_option maxRecDepth 100000 in
theorem pool_new (n m : Nat) (w : World) (h0 : 1 ≤ n) (h1 : n ≤ 4096) (h2 : 1 ≤ m) (h3 : m ≤ 512) :
    Calls Tryz.prog 56 #[.int .i64 n, .int .i64 m] w (RetPool n m w) := by
  have hmk1 := run_makeK (P := Tryz.prog) 164 169 (.agg #[.int .i64 0, .int .i64 0, .int .i64 0]) 3 24 Tryz.underlying164 (by kernel_rfl) n (by omega) (by omega)
  have hmk2 := run_makeK (P := Tryz.prog) 165 171 (.agg #[.int .i64 0, .int .i64 0]) 2 16 Tryz.underlying165 (by kernel_rfl) m (by omega) (by omega)
  rw [made_flat (f := lkc) (d := lk0) (z := (Value.agg #[.int .i64 0, .int .i64 0, .int .i64 0]).cells) (fun _ => rfl) (by omega) rfl n] at hmk1
  rw [made_flat (f := enc) (d := en0) (z := (Value.agg #[.int .i64 0, .int .i64 0]).cells) (fun _ => rfl) (by omega) rfl m] at hmk2
  rw [show rm n (fun _ => lk0) = lkG n 0 from rm_congr fun i _ => (if_neg (by omega)).symm] at hmk1
  rw [show rm m (fun _ => en0) = enG m 0 from rm_congr fun i _ => (if_neg (by omega)).symm] at hmk2
  generalize hL0 : lkG n 0 = L0 at *
  generalize hE0 : enG m 0 = E0 at *
  have d1 : decide ((n : Int) < 1) = false := by simp; omega
  have d2 : decide ((4096 : Int) < (n : Int)) = false := by simp; omega
  have d3 : decide ((m : Int) < 1) = false := by simp; omega
  have d4 : decide ((512 : Int) < (m : Int)) = false := by simp; omega
  have d1' : decide (n < 1) = false := by simp; omega
  have d2' : decide (4096 < n) = false := by simp; omega
  have d3' : decide (m < 1) = false := by simp; omega
  have d4' : decide (512 < m) = false := by simp; omega
  have l1 : L0.length = n := by rw [← hL0]; exact rm_len
  have l2 : E0.length = m := by rw [← hE0]; exact rm_len
  have HL0 := Lib.hid hL0; have HE0 := Lib.hid hE0; have Hl1 := Lib.hid l1; have Hl2 := Lib.hid l2
  clear hL0 hE0 l1 l2
  go_enter Tryz.func56, Tryz.ntmps56
  go_upto_region 3 with fail
  go_cut [6] (fun v wx => v = .pointer (some ⟨w.heap.size + 2, 0, none⟩) ∧ ∃ bl be, Hid (w.heap.size ≤ bl ∧ w.heap.size ≤ be ∧ PoM wx (w.heap.size + 2) bl be n m ⟨L0, E0, 0, n⟩ ∧ Below w.heap.size w wx))
  case first =>
    go_region
    · go_wp2
      go_meet
      refine ⟨rfl, w.heap.size, w.heap.size + 1, Lib.hid ⟨Nat.le_refl _, by omega, ⟨heap_new_at _ (by simp), box_alloc (box_alloc (heap_alloc_new _ _) _) _, box_alloc (heap_new_at _ (by simp)) _, Hl1.out, Hl2.out⟩, ?_⟩⟩
      exact (((Below.refl _ w).alloc (Nat.le_refl _) _).alloc (by simp) _).alloc (by simp; omega) _ |>.drew
    · go_wp2
      go_meet
      refine ⟨rfl, w.heap.size + 1, w.heap.size, Lib.hid ⟨by omega, Nat.le_refl _, ⟨heap_new_at _ (by simp), box_alloc (heap_new_at _ (by simp)) _, box_alloc (box_alloc (heap_alloc_new _ _) _) _, Hl1.out, Hl2.out⟩, ?_⟩⟩
      exact (((Below.refl _ w).alloc (Nat.le_refl _) _).alloc (by simp) _).alloc (by simp; omega) _ |>.drew
  case rest =>
  clear hmk1 hmk2
  obtain ⟨rfl, bl, be, HC⟩ := hcut
  have HS := Lib.hid HC.out.1; have HS2 := Lib.hid HC.out.2.1
  have HM := Lib.hid HC.out.2.2.1
  have HB := Lib.hid HC.out.2.2.2
  clear HC
  have HP : Hid (w.heap.size ≤ w.heap.size + 2) := Lib.hid (by omega)
  generalize w.heap.size + 2 = pp at *
  obtain ⟨B, hB⟩ : ∃ B, w.heap.size = B := ⟨_, rfl⟩
  rw [hB] at HS HS2 HB HP
  have HBe := Lib.hid hB
  clear hB
  rw [← HL0.out] at HM
  obtain ⟨xx, xy⟩ := box_rules (HM.out).box
  have fl := (box_rules (HM.out).lk).2
  have fe := (box_rules (HM.out).en).2
  have lx := box_lt (HM.out).box
  clear fl fe
  go_upto_region 5 with fail
  clear xx xy lx
  go_loopw [35] (fun i wr => ∃ j : Nat, j ≤ n ∧ i = .int .i64 j ∧ Hid (PoM wr pp bl be n m ⟨lkG n j, E0, 0, n⟩) ∧ Hid (Below B w wr)) (fun i _ => n - (intOf i).toNat)
  case atStart => exact ⟨0, by omega, rfl, HM, HB⟩
  case round =>
    obtain ⟨j, hj, rfl, HMj, HBj⟩ := hrel
    obtain ⟨xx, xy⟩ := box_rules (HMj.out).box
    have fl := (box_rules (HMj.out).lk).2
    have fe := (box_rules (HMj.out).en).2
    have lx := box_lt (HMj.out).box
    by_cases hlt : j < n
    · obtain ⟨x, hx, x1, x2, x3⟩ := HMj.out.lkAt hlt
      clear hx
      go_wp2
      refine ⟨⟨j + 1, by omega, by go_num, ?_, Lib.hid (((HBj.out.setCell (p := ⟨bl, j * 3, none⟩) HS.out _).setCell (p := ⟨bl, j * 3 + 1, none⟩) HS.out _).setCell (p := ⟨bl, j * 3 + 2, none⟩) HS.out _)⟩, ?_⟩
      · have h9 := HMj.out.set3 hlt (-1) (-1) ((j : Int) + 1)
        dsimp only at h9
        rw [lkG_set] at h9
        exact Lib.hid h9
      · simp [intOf]; omega
    · obtain rfl : j = n := by omega
      obtain ⟨n', rfl⟩ : ∃ n', j = n' + 1 := ⟨j - 1, by omega⟩
      obtain ⟨x, hx, x1, x2, x3⟩ := HMj.out.lkAt (i := n') (by omega)
      clear hx
      have e1 : IntKind.i64.wrap (((n' + 1 : Nat) : Int) - 1) = (n' : Int) := by rw [IntWalk.i64_in _ (by omega)]; omega
      have e2 : ((n' + 1 : Nat) : Int) - 1 = (n' : Int) := by omega
      have e3 : ((n' : Int) + 1) - 1 = (n' : Int) := by omega
      go_upto_region 10 with fail
      refine name_world fun V hV => ?_
      have HMV := Lib.hid (show PoM V pp bl be (n' + 1) m ⟨lkN (n' + 1), E0, 0, ((n' + 1 : Nat) : Int)⟩ by
        rw [hV, ← lkG_last]; exact HMj.out.setB (i := n') (by omega) (-1))
      have HBV := Lib.hid (show Below B w V by rw [hV]; exact HBj.out.setCell (p := ⟨bl, n' * 3 + 2, none⟩) HS.out _)
      clear hV xx xy fl fe lx x1 x2 x3 HMj HBj
      rw [← HE0.out] at HMV
      obtain ⟨xx, xy⟩ := box_rules (HMV.out).box
      have fl := (box_rules (HMV.out).lk).2
      have fe := (box_rules (HMV.out).en).2
      have lx := box_lt (HMV.out).box
      go_upto_region 11 with fail
      clear xx xy fl fe lx
      go_loopw [61] (fun i wr => ∃ j : Nat, j ≤ m ∧ i = .int .i64 j ∧ Hid (PoM wr pp bl be (n' + 1) m ⟨lkN (n' + 1), enG m j, 0, ((n' + 1 : Nat) : Int)⟩) ∧ Hid (Below B w wr)) (fun i _ => m - (intOf i).toNat)
      case atStart => exact ⟨0, by omega, rfl, HMV, HBV⟩
      case round =>
        obtain ⟨j, hj, rfl, HMj, HBj⟩ := hrel
        obtain ⟨xx, xy⟩ := box_rules (HMj.out).box
        have fl := (box_rules (HMj.out).lk).2
        have fe := (box_rules (HMj.out).en).2
        have lx := box_lt (HMj.out).box
        by_cases hlt : j < m
        · obtain ⟨x, hx, x1, x2⟩ := HMj.out.enAt hlt
          clear hx
          go_wp2
          refine ⟨⟨j + 1, by omega, by go_num, ?_, Lib.hid ((HBj.out.setCell (p := ⟨be, j * 2, none⟩) HS2.out _).setCell (p := ⟨be, j * 2 + 1, none⟩) HS2.out _)⟩, ?_⟩
          · have h9 := (HMj.out.setF hlt (-1)).setZ hlt (-1)
            dsimp only at h9
            rw [set_set, pget_eq (by unfold enG; rw [rm_len]; exact hlt)] at h9
            have h10 := enG_set m j
            rw [h10] at h9
            exact Lib.hid h9
          · simp [intOf]; omega
        · obtain rfl : j = m := by omega
          go_wp2
          go_ret2
          exact ⟨pp, bl, be, rfl, by rw [HBe.out]; exact HP.out, by rw [HBe.out]; exact HS.out, by rw [HBe.out]; exact HS2.out, ⟨_, HMj.out, poI_new (Nat.succ_pos _)⟩, by rw [HBe.out]; exact HBj.out⟩
set_option maxHeartbeats 4000000 in
theorem pool_bad (n : Int) (m : Nat) (w : World) (h : ¬ (1 ≤ n ∧ n ≤ 4096)) :
    Calls Tryz.prog 56 #[.int .i64 n, .int .i64 m] w fun e w' => e = .returned (.tuple #[.pointer none, .int .i64 1]) ∧ w = w' := by
  by_cases h1 : n < 1
  · go_enter Tryz.func56, Tryz.ntmps56
    go_wp2
    go_ret2
    exact ⟨rfl, rfl⟩
  · have h2 : 4096 < n := by omega
    have h3 : 1 ≤ n := by omega
    go_enter Tryz.func56, Tryz.ntmps56
    go_wp2
    go_ret2
    exact ⟨rfl, rfl⟩
end Go.Proofs.YtiblpnadninmbaaGreatDoor

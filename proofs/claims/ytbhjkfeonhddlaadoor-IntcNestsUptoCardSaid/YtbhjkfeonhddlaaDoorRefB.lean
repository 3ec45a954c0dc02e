/- vergeref06: the walk of with. Conditions: a word below 2^64, a number below 64. -/
import Derived.Test.YtbhjkfeonhddlaaDoorIntcL
namespace Go.Proofs.YtbhjkfeonhddlaaDoor
open Go.RowKit Go.Shelf

/-- What 'with' has gathered behind k of a list. -/
def wL (L : List Int) (n k : Nat) : List Int := (L.take k).filter fun m => m != (n : Int)
theorem wL_succ {L : List Int} {n k : Nat} (hk : k < L.length) : wL L n (k + 1) = wL L n k ++ (if L.getD k 0 = (n : Int) then [] else [L.getD k 0]) := by
  unfold wL
  have e : L.getD k 0 = L[k] := by simp [List.getD, hk]
  rw [List.take_add_one, List.getElem?_eq_getElem hk, List.filter_append, e]
  congr 1
  by_cases h : L[k] = (n : Int)
  · simp [h]
  · simp [h]
theorem wL_len (L : List Int) (n k : Nat) : (wL L n k).length ≤ L.length := by
  unfold wL
  exact Nat.le_trans (List.length_filter_le _ _) (by rw [List.length_take]; omega)
theorem wL_mem {b n : Nat} {m : Int} : m ∈ wL (bI b 64) n (bI b 64).length ↔ ∃ i : Nat, i < 64 ∧ b.testBit i = true ∧ i ≠ n ∧ m = (i : Int) := by
  unfold wL
  rw [List.take_length, List.mem_filter]
  unfold bI
  rw [List.mem_map]
  constructor
  · rintro ⟨⟨i, hi, rfl⟩, hn⟩
    obtain ⟨h1, h2⟩ := mem_bitsOf.1 hi
    refine ⟨i, h1, h2, ?_, rfl⟩
    rintro rfl
    simp at hn
  · rintro ⟨i, h1, h2, h3, rfl⟩
    refine ⟨⟨i, mem_bitsOf.2 ⟨h1, h2⟩, rfl⟩, ?_⟩
    simp
    omega
def wAll (b n : Nat) (on : Bool) : List Int := wL (bI b 64) n (bI b 64).length ++ (if on then [(n : Int)] else [])
theorem wAll_in {b n : Nat} (hn : n < 64) (on : Bool) : ∀ i, i < (wAll b n on).length → 0 ≤ (wAll b n on).getD i 0 ∧ (wAll b n on).getD i 0 < 64 := by
  intro i hi
  have e : (wAll b n on).getD i 0 = (wAll b n on)[i] := by simp [List.getD, hi]
  have hm : (wAll b n on)[i] ∈ wAll b n on := List.getElem_mem hi
  rw [e]
  generalize (wAll b n on)[i] = x at *
  unfold wAll at hm
  rw [List.mem_append] at hm
  rcases hm with h | h
  · obtain ⟨j, h1, _, _, rfl⟩ := wL_mem.1 h
    omega
  · cases on
    · cases h
    · simp at h; omega
theorem wAll_set {b n : Nat} (hn : n < 64) (on : Bool) : ofList (wAll b n on) = setB b n on := by
  unfold ofList setB
  apply mk_congr
  intro i hi
  rw [Bool.eq_iff_iff, List.contains_iff_mem]
  unfold wAll
  rw [List.mem_append, wL_mem]
  by_cases he : i = n
  · subst he
    rw [if_pos rfl]
    cases on
    · simp; intro j _ _ h1 h2; omega
    · simp
  · rw [if_neg he]
    constructor
    · rintro (⟨j, h1, h2, h3, h4⟩ | h)
      · obtain rfl : i = j := by omega
        exact h2
      · cases on
        · cases h
        · simp at h; omega
    · intro h
      exact .inl ⟨i, hi, h, he, rfl⟩

set_option maxHeartbeats 4000000 in
theorem with_any (b : Nat) (hb : b < 18446744073709551616) (n : Nat) (hn : n < 64) (on : Bool) (w : World) :
    Calls Tryd.prog 38 #[.int .u64 b, .int .i64 n, .bool on] w fun e w' => e = .returned (.int .u64 ((setB b n on : Nat) : Int)) ∧ Below w.heap.size w w' := by
  have f1 := Lib.hid (fun w => rlist_any b w hb)
  have f2 := Lib.hid (fun A c w hl hr => rof_ok A (wAll b n on) c w hl hr (wAll_in hn on))
  rw [wAll_set hn on] at f2
  have hL := bI_len b 64
  have HA : Hid (wAll b n on = wL (bI b 64) n (bI b 64).length ++ (if on then [(n : Int)] else [])) := rfl
  generalize wAll b n on = Z at *
  generalize setB b n on = R at *
  generalize bI b 64 = L at *
  go_enter Tryd.func38, Tryd.ntmps38
  go_wp2_with fail
  refine (f1.out w).mono ?_
  rintro e w1 ⟨A, c, rfl, ho, hb1⟩
  have HL := Lib.hid (own_rd ho)
  have HB1 := Lib.hid hb1
  clear ho hb1
  go_wp2_with fail
  go_loopw [7, 15] (fun v i wr => ∃ (k : Nat) (A : Option Addr) (c : Nat), k ≤ L.length ∧ i = .int .i64 k ∧ v = .slice A (wL L n k).length c ∧
    wr.ownsRow w1.heap.size 3 1 (.slice A (wL L n k).length c) (wL L n k).length ((wL L n k).map (.int .i64)) ∧ Below w1.heap.size w1 wr) (fun _ i _ => L.length - (intOf i).toNat)
  case atStart => exact ⟨0, none, 0, by omega, rfl, rfl, own_nil _ _ _, Below.refl _ _⟩
  case round =>
    obtain ⟨k, A', c', hk, rfl, rfl, ho, hB⟩ := hrel
    have Ho := Lib.hid ho; clear ho
    have HBw := Lib.hid hB
    have s1 := hB.size
    clear hB
    by_cases hlt : k < L.length
    · obtain ⟨a, ha, h1⟩ := (HL.out.below HBw.out).int hlt
      subst ha
      have Hs := Lib.hid (wL_succ (n := n) hlt)
      have hln := wL_len L n k
      generalize L.getD k 0 = m at *
      generalize hX : wL L n k = X at *
      clear hX
      by_cases he : m = (n : Int)
      · have e1 : (m != (n : Int)) = false := by simpa using he
        rw [if_pos he] at Hs
        clear he
        go_wp2_with fail
        go_roundw
        case rel =>
          refine ⟨k + 1, A', c', by omega, by go_num, ?_⟩
          rw [Hs.out, List.append_nil]
          exact ⟨rfl, Ho.out, HBw.out⟩
        case measure => simp [intOf]; omega
      · have e1 : (m != (n : Int)) = true := by simpa using he
        rw [if_neg he] at Hs
        clear he
        go_wp2_with (at_builtin; refine wp_app1 rfl _ _ sl_int (by decide) rfl (Ho.out.alloc _) rfl (by omega) (by simp; omega) wr.heap.size (.int .i64 m) rfl (by go_simp) rfl ?_; intro A2 c2 w2 hown' hB')
        go_roundw
        case rel =>
          refine ⟨k + 1, A2, c2, by omega, by go_num, ?_⟩
          rw [Hs.out]
          simp only [List.length_append, List.length_cons, List.length_nil, Nat.zero_add, List.map_append, List.map_cons, List.map_nil, true_and]
          exact ⟨hown', HBw.out.trans (((Below.refl _ _).alloc s1 _).trans hB')⟩
        case measure => simp [intOf]; omega
    · obtain rfl : k = L.length := by omega
      have hln := wL_len L n L.length
      generalize hX : wL L n L.length = X at *
      clear hX
      cases on with
      | true =>
        rw [if_pos rfl] at HA
        have hZ : Z.length = X.length + 1 := by rw [HA.out]; simp
        go_wp2_with (at_builtin; refine wp_app1 rfl _ _ sl_int (by decide) rfl (Ho.out.alloc _) rfl (by omega) (by simp; omega) wr.heap.size (.int .i64 n) rfl (by go_simp) rfl ?_; intro A2 c2 w2 hown' hB')
        rw [hZ] at f2
        have hr : Rd w2 A2 (Z.map (.int .i64)) := by rw [HA.out, List.map_append]; exact own_rd hown'
        refine (f2.out A2 c2 w2 (by omega) hr).mono ?_
        rintro e w' ⟨rfl, rfl⟩
        go_wp2_with fail
        go_ret
        exact ⟨rfl, HB1.out.trans ((HBw.out.trans (((Below.refl _ _).alloc s1 _).trans hB')).mono HB1.out.size)⟩
      | false =>
        rw [if_neg (by decide), List.append_nil] at HA
        have hr : Rd wr A' (Z.map (.int .i64)) := by rw [HA.out]; exact own_rd Ho.out
        have hZ : Z.length = X.length := by rw [HA.out]
        rw [hZ] at f2
        go_wp2_with fail
        refine (f2.out A' c' wr (by omega) hr).mono ?_
        rintro e w' ⟨rfl, rfl⟩
        go_wp2_with fail
        go_ret
        exact ⟨rfl, HB1.out.trans (HBw.out.mono HB1.out.size)⟩
end Go.Proofs.YtbhjkfeonhddlaaDoor

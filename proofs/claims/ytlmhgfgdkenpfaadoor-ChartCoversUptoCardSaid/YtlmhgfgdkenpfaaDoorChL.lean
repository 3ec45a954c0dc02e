/- Package chart: the walk of Text. Conditions: a list that reads, the tables as laid. -/
import Derived.Test.YtlmhgfgdkenpfaaDoorChF
import Derived.Test.YtlmhgfgdkenpfaaDoorShelf
import Derived.Lib.LaidTab
import Derived.Laws.BytesString
import Derived.Laws.BytesArg
import Derived.Lib.ItoaLen
import Derived.Deep.RegionLaw
namespace Go.Proofs.YtlmhgfgdkenpfaaDoor
open Go.RowKit Go.Shelf
attribute [local go_sem] Oper.semAt_some

def letB (k : Int) : UInt8 := ([105, 116, 98, 108] : List UInt8).getD k.toNat 0
def okR (x : Rn) : Bool := decide (tmB x.ff = true ∧ tmB x.tt = true ∧ x.kind < 4 ∧ 0 ≤ x.who ∧ x.who ≤ 63)
def tx1 (k : Nat) (x : Rn) : List UInt8 := (((if 0 < k then [32] else []) ++ [letB x.kind]) ++ (if x.kind = 0 then [] else Lib.itoa x.who)) ++ [58] ++ Lib.itoa (max 0 (x.tt - x.ff))
def txG : Nat → List UInt8 → List Rn → Option (List UInt8)
  | _, b, [] => some b
  | k, b, x :: l => if okR x = true then txG (k + 1) (b ++ tx1 k x) l else none
def txt (l : List Rn) : Option (List UInt8) := txG 0 [] l
/-- What Text hands back. -/
def RetTx (l : List Rn) (w : World) (e : Ending) (w' : World) : Prop := e = .returned (.tuple #[.string ⟨((txt l).getD []).toArray⟩, .int .i64 (if (txt l).isSome = true then 0 else 2)]) ∧ Below w.heap.size w w'
theorem slB : SlK Tryd.prog 54 5 1 1 := SlK.mk' (z := .int .u8 0) Tryd.underlying54 (by kernel_rfl) rfl (by decide)
theorem own_bytes {w : World} {base n c : Nat} {A : Option Addr} {bs bs' : List UInt8} (h : w.ownsRow base 5 1 (.slice A n c) n (Lib.byteCells bs ++ Lib.byteCells bs')) (hn : n = (bs ++ bs').length) : w.ownsRow base 5 1 (.slice A (bs ++ bs').length c) (bs ++ bs').length (Lib.byteCells (bs ++ bs')) := by
  rw [Lib.byteCells_append, ← hn]; exact h
theorem str_any {w : World} {base c : Nat} {A : Option Addr} {bs : List UInt8} (h : w.ownsRow base 5 1 (.slice A bs.length c) bs.length (Lib.byteCells bs)) : (convert 54 9 (.slice A bs.length c)).run Tryd.prog w = .ok (.string ⟨bs.toArray⟩) w := by
  have hs : Tryd.prog.underlying 54 = some (.slice 5) := by kernel_rfl
  have he : Tryd.prog.underlying 5 = some (.int .u8) := by kernel_rfl
  have hd : Tryd.prog.underlying 9 = some .string := by kernel_rfl
  have hr := own_rdK h
  cases A with
  | none =>
    have hb : bs = [] := by
      cases bs with
      | nil => rfl
      | cons b t =>
        obtain ⟨a, ha, _⟩ := hr 0 (.int .u8 b.toNat) rfl
        cases ha
    subst hb
    exact run_convert_bytes_nil w _ _ hs he 0 c _ hd
  | some a =>
    have hl := run_loadCells_list (P := Tryd.prog) w a (Lib.byteCells bs) (fun j v hj => by
      obtain ⟨a', ha, hc⟩ := hr j v hj
      cases ha
      exact hc)
    have hbc : Lib.byteCells bs = (bs.map fun b => (b.toNat : Int)).map (Value.int .u8) := by simp [Lib.byteCells, List.map_map, Function.comp_def]
    rw [Lib.byteCells_length, hbc] at hl
    rw [run_convert_bytes_string w _ _ _ _ _ _ hs he hd, run_bytesToString w a _ c _ hl, foldl_push_bytes]
    congr 2
    simp [List.map_map, Function.comp_def, ByteArray.empty, ByteArray.emptyWithCapacity]
    try rfl
theorem appInt_any (base c n : Nat) (bs : List UInt8) (A : Option Addr) (i : Int) (w : World) (h0 : -9223372036854775808 ≤ i) (h1 : i ≤ 9223372036854775807) (hown : w.ownsRow base 5 1 (.slice A n c) n (Lib.byteCells bs)) (hn : n = bs.length) (hB : base ≤ w.heap.size) (hl : bs.length ≤ 100000000)
    (ht : Lib.TabBelow Tryd.prog base w "internal/strconv.uint64pow10" .u64 Lib.pow10Tab) :
    Calls Tryd.prog 25 #[.slice A n c, .int .i64 i, .int .i64 10] w fun e w' => ∃ A' c' bs', e = .returned (.slice A' (List.length bs') c') ∧ bs' = bs ++ Lib.itoa i ∧ w'.ownsRow base 5 1 (.slice A' bs'.length c') bs'.length (Lib.byteCells bs') ∧ Below base w w' ∧ Lib.OthersKept 5 none w w' := by
  subst hn
  refine (Tryd.strconv_AppendInt_10 base bs.length i h0 h1 _ _ w hown hB (by omega) ht).mono ?_
  rintro e w' ⟨v, rfl, h2, h3, h4⟩
  obtain ⟨A', c', rfl, _⟩ := own_sliceK h2
  rw [← Lib.byteCells_append, ← List.length_append] at h2
  exact ⟨A', c', bs ++ Lib.itoa i, by rw [← List.length_append], rfl, h2, h3, h4⟩
theorem kept_box {w w' : World} {b : Nat} {cs : Array Value} (h : Lib.OthersKept 5 none w w') (hb : w.heap[b]? = some (.cells cs 33 (0, 0))) : w'.heap[b]? = some (.cells cs 33 (0, 0)) :=
  h b _ hb (by simp) (fun c fz e => by injection e with _ e; exact absurd e (by decide))
set_option maxHeartbeats 4000000 in
set_option maxRecDepth 100000 in
theorem text_any (l : List Rn) (A : Option Addr) (c : Nat) (w : World) (hl : l.length ≤ 1048577) (hr : Rd w A (l.flatMap rnc)) (hkd : ∀ x ∈ l, 0 ≤ x.kind)
    (ht1 : Lib.TabIs Tryd.prog w "verge/chart.letters" .u8 [105, 116, 98, 108]) (ht2 : Lib.TabIs Tryd.prog w "internal/strconv.uint64pow10" .u64 Lib.pow10Tab) :
    Calls Tryd.prog 14 #[.slice A l.length c] w (RetTx l w) := by
  have HR := Lib.hid hr
  have HK : Hid (∀ k, k < l.length → 0 ≤ (l.getD k rn0).kind) := Lib.hid (fun k hk => hkd _ (by simp [List.getD, hk]))
  have T1 := Lib.hid (Lib.tabBelow_of_tabIs ht1)
  have T2 := Lib.hid (Lib.tabBelow_of_tabIs ht2)
  have HG0 : Hid (txG 0 [] (l.drop 0) = txt l) := Lib.hid rfl
  clear hr hkd ht1 ht2
  unfold RetTx
  generalize txt l = R at *
  obtain ⟨cc, hcc⟩ : ∃ cc : Int, cc = (if R.isSome = true then 0 else 2) := ⟨_, rfl⟩
  rw [← hcc]
  have HCc := Lib.hid hcc
  clear hcc
  go_enter Tryd.func14, Tryd.ntmps14
  go_wp2
  go_loopw [4, 9] (fun s i wr => ∃ (k : Nat) (B1 : Option Addr) (d1 : Nat) (bs : List UInt8), k ≤ l.length ∧ i = .int .i64 k ∧ s = .slice B1 bs.length d1 ∧ bs.length ≤ 60 * k ∧ Hid (txG k bs (l.drop k) = R) ∧ Hid (wr.ownsRow w.heap.size 5 1 (.slice B1 bs.length d1) bs.length (Lib.byteCells bs)) ∧ Hid (Below w.heap.size w wr)) (fun _ i _ => l.length - (intOf i).toNat)
  case atStart => exact ⟨0, none, 0, [], by omega, rfl, rfl, by simp, HG0, own_nilK _ _ _ _, Lib.hid (Below.refl _ _)⟩
  case round =>
    obtain ⟨k, B1, d1, bs, hk, rfl, rfl, hb, HG, HOr, hSr⟩ := hrel
    clear HG0
    by_cases hlt : k < l.length
    · obtain ⟨a, x, rfl, hx, g0, g1, g2, g3⟩ := (HR.out.below hSr.out).rnAt hlt
      have hkx := HK.out k hlt
      rw [hx] at hkx
      have HG2 := Lib.hid (show (if okR x = true then txG (k + 1) (bs ++ tx1 k x) (l.drop (k + 1)) else none) = R by rw [← HG.out, drop_at (d := rn0) hlt, hx]; rfl)
      have c1 := Lib.hid (fun w => time_any x.ff w)
      have c2 := Lib.hid (fun w => time_any x.tt w)
      clear hx HG
      by_cases hok : okR x = true
      · have HN := Lib.hid (show txG (k + 1) (bs ++ tx1 k x) (l.drop (k + 1)) = R by rw [← HG2.out, if_pos hok])
        obtain ⟨o1, o2, o3, o4, o5⟩ := of_decide_eq_true hok
        rw [o1] at c1
        rw [o2] at c2
        have r1 := of_decide_eq_true o1
        have r2 := of_decide_eq_true o2
        obtain ⟨x0, x1, x2, x3⟩ := x
        dsimp only at *
        clear hok HG2 o1 o2
        obtain ⟨kk, rfl⟩ : ∃ kk : Nat, x0 = (kk : Int) := ⟨x0.toNat, by omega⟩
        have o9 : kk < 4 := by omega
        have d1' : decide ((4 : Int) ≤ (kk : Int)) = false := by simp; omega
        have d2' : decide (x1 < 0) = false := by simp; omega
        have d3' : decide ((63 : Int) < x1) = false := by simp; omega
        go_upto_region 7 with (first | ((with_reducible refine (c1.out _).mono ?_); rintro e w' ⟨rfl, rfl⟩) | ((with_reducible refine (c2.out _).mono ?_); rintro e w' ⟨rfl, rfl⟩))
        refine name_world fun V hV => ?_
        have HX : Hid (V.heap[wr.heap.size]? = some (.cells #[.int .u8 kk, .int .i64 x1, .int .i64 x2, .int .i64 x3] 33 (0, 0))) := Lib.hid (by rw [hV]; exact heap_alloc_new wr _)
        have HO : Hid (V.ownsRow w.heap.size 5 1 (.slice B1 bs.length d1) bs.length (Lib.byteCells bs)) := Lib.hid (by rw [hV]; exact own_allocK HOr.out _)
        have HB : Hid (Below w.heap.size w V) := Lib.hid (by rw [hV]; exact hSr.out.alloc hSr.out.size _)
        have sV := HB.out.size
        clear hV HOr hSr g0 g1 g2 g3 c1 c2 d1' d2' d3'
        generalize wr.heap.size = D at *
        obtain ⟨xx, xy⟩ := box_rules HX.out
        have lx := box_lt HX.out
        by_cases hk0 : k = 0
        · have dk : decide ((0 : Int) < (k : Int)) = false := by simp; omega
          have dk2 : decide (0 < k) = false := by simp; omega
          have Hk0 := Lib.hid hk0
          clear hk0
          go_upto_region 9 with fail
          have hlb := (T1.out V HB.out).cell (g := 0) (by kernel_rfl) kk (by simp; omega)
          rw [show (([105, 116, 98, 108] : List Int).getD kk 0) = ((letB (kk : Int)).toNat : Int) by rcases (show kk = 0 ∨ kk = 1 ∨ kk = 2 ∨ kk = 3 by omega) with rfl | rfl | rfl | rfl <;> rfl] at hlb
          have HLb : Hid (letB (kk : Int) = letB (kk : Int)) := Lib.hid rfl
          generalize hlbb : letB (kk : Int) = lb at hlb
          go_upto_region 10 with (
            at_builtin
            refine wp_appK rfl _ _ slB (by decide) rfl (own_allocK HO.out _) rfl (by omega) (by simp; omega) V.heap.size [.int .u8 (lb.toNat : Int)] rfl rfl (fun j u hu => new_cell hu) rfl ?_
            intro A3 c3 w3 ho3 hg3 _
            have G3 := Lib.hid (grown_step HO.out hg3)
            have HO3 := Lib.hid (own_bytes (bs' := [lb]) ho3 (by rw [List.length_append]; rfl))
            have HX3 := Lib.hid (G3.out.other HX.out (by decide))
            have HB3 := Lib.hid (G3.out.below HB.out (Nat.le_refl _) (by omega))
            have s3 := HB3.out.size
            clear ho3 hg3 G3 HO HX HB xx xy lx
            obtain ⟨xx, xy⟩ := box_rules HX3.out
            have lx := box_lt HX3.out
            )
          rw [show bs.length + 1 = (bs ++ [lb]).length by simp]
          have hle : (bs ++ [lb]).length ≤ bs.length + 1 := by simp
          generalize hh : bs ++ [lb] = bs1 at *
          have HE1 := Lib.hid hh
          have HO := HO3; have HX := HX3; have HB := HB3
          clear hh HO3 HX3 HB3
          have HLb2 := Lib.hid hlbb
          clear hlbb
          by_cases hkk : kk = 0
          · have Hkk := Lib.hid hkk
            have dkk : ((kk : Int) != 0) = false := by simp; omega
            clear hkk
            go_upto_region 12 with fail
            have HF : Hid (bs ++ tx1 k ⟨kk, x1, x2, x3⟩ = bs1 ++ [58] ++ Lib.itoa (max 0 (x3 - x2))) := Lib.hid (by unfold tx1; dsimp only; rw [if_neg (show ¬ 0 < k by have := Hk0.out; omega), if_pos (show (kk : Int) = 0 by have := Hkk.out; omega), ← HE1.out, HLb2.out]; simp [List.append_assoc])
            have hle5 : (bs1 ++ [58]).length = bs1.length + 1 := by simp
            have HL5 := Lib.hid hle5
            clear hle5
            have hwd : wrap64 (x3 - x2) = x3 - x2 := Go.IntWalk.wrap64_in _ (by omega)
            have hwi : IntKind.i64.wrap (x3 - x2) = x3 - x2 := IntWalk.i64_in _ (by omega)
            have xxA : ∀ o i, (w3.alloc o).cell? ⟨D, i, none⟩ = (#[Value.int .u8 kk, .int .i64 x1, .int .i64 x2, .int .i64 x3] : Array Value)[i]? := fun o i => (box_rules (box_alloc HX.out o)).1 i
            have xyA : ∀ o i, (w3.alloc o).frozen? ⟨D, i, none⟩ = false := fun o i => (box_rules (box_alloc HX.out o)).2 i
            go_region_law (first | (refine step_appK rfl _ _ slB (by decide) rfl (own_drewK (own_allocK HO.out _)) rfl (by omega) (by simp only [World.size_alloc, World.size_drew]; omega) w3.heap.size [.int .u8 58] rfl rfl (fun j u hu => new_cell hu) rfl ?_; intro A5 c5 w5 ho5 hg5 _; have HG5 := Lib.hid (grown_undrew hg5); have G5 := Lib.hid (grown_step HO.out HG5.out); have HX5 := Lib.hid (G5.out.other HX.out (by decide)); have HB5 := Lib.hid (G5.out.below HB.out (Nat.le_refl _) (by omega)); have HO5 := Lib.hid (own_bytes (bs' := [58]) ho5 (by rw [List.length_append]; rfl)); rw [HL5.out] at HO5; have s5 := HB5.out.size; clear ho5 hg5; obtain ⟨ux, uy⟩ := box_rules HX5.out) | (go_simp; go_at_call 25; refine (appInt_any w.heap.size c5 _ (bs1 ++ [58]) A5 _ w5 (by omega) (by omega) HO5.out HL5.out.symm (by omega) (by rw [HL5.out]; omega) (T2.out.on HB5.out)).mono ?_; rintro e w6 ⟨A6, c6, bs6, rfl, hh6, ho6, hb6, hk6⟩; have HX6 := Lib.hid (kept_box hk6 HX5.out); have HB6 := Lib.hid (HB5.out.trans hb6); have HO6 := Lib.hid ho6; have HH6 := Lib.hid hh6; clear hk6 hb6 ho6 hh6))
            all_goals
              go_wp2
              have hi6 := Lib.itoa_length_le (max 0 (x3 - x2)) (by omega) (by omega)
              have hl6 : bs6.length ≤ bs1.length + 22 := by rw [HH6.out, List.length_append, HL5.out]; omega
              refine ⟨⟨k + 1, A6, c6, bs6, by omega, by go_num, rfl, by omega, Lib.hid (by rw [HH6.out, ← HF.out]; exact HN.out), HO6, HB6⟩, ?_⟩
              simp [intOf]; omega
          · have Hkk := Lib.hid hkk
            have dkk : ((kk : Int) != 0) = true := by simp; omega
            clear hkk
            have hi := Lib.itoa_length_le x1 (by omega) (by omega)
            have HC := Lib.hid (appInt_any w.heap.size c3 _ bs1 A3 x1 w3 (by omega) (by omega) HO.out rfl (by omega) (by omega) (T2.out.on HB.out))
            go_upto_region 12 with (go_at_call 25; refine HC.out.mono ?_; rintro e w4 ⟨A4, c4, bs2, rfl, hh, ho4, hb4, hk4⟩; have hle2 : bs2.length ≤ bs1.length + 21 := (by rw [hh, List.length_append]; omega); have HE2 := Lib.hid hh; clear hh)
            have HO4 := Lib.hid ho4
            have HX4 := Lib.hid (kept_box hk4 HX.out)
            have HB4 := Lib.hid (HB.out.trans hb4)
            clear ho4 hk4 hb4 HC HO HX HB hi xx xy lx
            have HO := HO4; have HX := HX4; have HB := HB4
            clear HO4 HX4 HB4
            obtain ⟨xx, xy⟩ := box_rules HX.out
            have lx := box_lt HX.out
            have s4 := HB.out.size
            have HF : Hid (bs ++ tx1 k ⟨kk, x1, x2, x3⟩ = bs2 ++ [58] ++ Lib.itoa (max 0 (x3 - x2))) := Lib.hid (by unfold tx1; dsimp only; rw [if_neg (show ¬ 0 < k by have := Hk0.out; omega), if_neg (show ¬ (kk : Int) = 0 by have := Hkk.out; omega), HE2.out, ← HE1.out, HLb2.out]; simp [List.append_assoc])
            have hle5 : (bs2 ++ [58]).length = bs2.length + 1 := by simp
            have HL5 := Lib.hid hle5
            clear hle5
            have hwd : wrap64 (x3 - x2) = x3 - x2 := Go.IntWalk.wrap64_in _ (by omega)
            have hwi : IntKind.i64.wrap (x3 - x2) = x3 - x2 := IntWalk.i64_in _ (by omega)
            have xxA : ∀ o i, (w4.alloc o).cell? ⟨D, i, none⟩ = (#[Value.int .u8 kk, .int .i64 x1, .int .i64 x2, .int .i64 x3] : Array Value)[i]? := fun o i => (box_rules (box_alloc HX.out o)).1 i
            have xyA : ∀ o i, (w4.alloc o).frozen? ⟨D, i, none⟩ = false := fun o i => (box_rules (box_alloc HX.out o)).2 i
            go_region_law (first | (refine step_appK rfl _ _ slB (by decide) rfl (own_drewK (own_allocK HO.out _)) rfl (by omega) (by simp only [World.size_alloc, World.size_drew]; omega) w4.heap.size [.int .u8 58] rfl rfl (fun j u hu => new_cell hu) rfl ?_; intro A5 c5 w5 ho5 hg5 _; have HG5 := Lib.hid (grown_undrew hg5); have G5 := Lib.hid (grown_step HO.out HG5.out); have HX5 := Lib.hid (G5.out.other HX.out (by decide)); have HB5 := Lib.hid (G5.out.below HB.out (Nat.le_refl _) (by omega)); have HO5 := Lib.hid (own_bytes (bs' := [58]) ho5 (by rw [List.length_append]; rfl)); rw [HL5.out] at HO5; have s5 := HB5.out.size; clear ho5 hg5; obtain ⟨ux, uy⟩ := box_rules HX5.out) | (go_simp; go_at_call 25; refine (appInt_any w.heap.size c5 _ (bs2 ++ [58]) A5 _ w5 (by omega) (by omega) HO5.out HL5.out.symm (by omega) (by rw [HL5.out]; omega) (T2.out.on HB5.out)).mono ?_; rintro e w6 ⟨A6, c6, bs6, rfl, hh6, ho6, hb6, hk6⟩; have HX6 := Lib.hid (kept_box hk6 HX5.out); have HB6 := Lib.hid (HB5.out.trans hb6); have HO6 := Lib.hid ho6; have HH6 := Lib.hid hh6; clear hk6 hb6 ho6 hh6))
            all_goals
              go_wp2
              have hi6 := Lib.itoa_length_le (max 0 (x3 - x2)) (by omega) (by omega)
              have hl6 : bs6.length ≤ bs2.length + 22 := by rw [HH6.out, List.length_append, HL5.out]; omega
              refine ⟨⟨k + 1, A6, c6, bs6, by omega, by go_num, rfl, by omega, Lib.hid (by rw [HH6.out, ← HF.out]; exact HN.out), HO6, HB6⟩, ?_⟩
              simp [intOf]; omega
        · have dk : decide ((0 : Int) < (k : Int)) = true := by simp; omega
          have dk2 : decide (0 < k) = true := by simp; omega
          have Hk0 := Lib.hid hk0
          clear hk0
          go_upto_region 9 with (
            at_builtin
            refine wp_appK rfl _ _ slB (by decide) rfl (own_allocK HO.out _) rfl (by omega) (by simp; omega) V.heap.size [.int .u8 32] rfl rfl (fun j u hu => new_cell hu) rfl ?_
            intro A3 c3 w3 ho3 hg3 _
            have G3 := Lib.hid (grown_step HO.out hg3)
            have HO3 := Lib.hid (own_bytes (bs' := [(32 : UInt8)]) ho3 (by rw [List.length_append]; rfl))
            have HX3 := Lib.hid (G3.out.other HX.out (by decide))
            have HB3 := Lib.hid (G3.out.below HB.out (Nat.le_refl _) (by omega))
            have s3 := HB3.out.size
            clear ho3 hg3 G3 HO HX HB xx xy lx
            obtain ⟨xx, xy⟩ := box_rules HX3.out
            have lx := box_lt HX3.out
            )
          rw [show bs.length + 1 = (bs ++ [(32 : UInt8)]).length by simp]
          have hle : (bs ++ [(32 : UInt8)]).length ≤ bs.length + 1 := by simp
          generalize hh : bs ++ [(32 : UInt8)] = bs0 at *
          have HE0 := Lib.hid hh
          have HO := HO3; have HX := HX3; have HB := HB3
          clear hh HO3 HX3 HB3
          have hlb := (T1.out w3 HB.out).cell (g := 0) (by kernel_rfl) kk (by simp; omega)
          rw [show (([105, 116, 98, 108] : List Int).getD kk 0) = ((letB (kk : Int)).toNat : Int) by rcases (show kk = 0 ∨ kk = 1 ∨ kk = 2 ∨ kk = 3 by omega) with rfl | rfl | rfl | rfl <;> rfl] at hlb
          generalize hlbb : letB (kk : Int) = lb at hlb
          have HLb2 := Lib.hid hlbb
          clear hlbb
          go_upto_region 10 with (
            at_builtin
            refine wp_appK rfl _ _ slB (by decide) rfl (own_allocK HO.out _) rfl (by omega) (by simp; omega) w3.heap.size [.int .u8 (lb.toNat : Int)] rfl rfl (fun j u hu => new_cell hu) rfl ?_
            intro A3 c3 w3 ho3 hg3 _
            have G3 := Lib.hid (grown_step HO.out hg3)
            have HO3 := Lib.hid (own_bytes (bs' := [lb]) ho3 (by rw [List.length_append]; rfl))
            have HX3 := Lib.hid (G3.out.other HX.out (by decide))
            have HB3 := Lib.hid (G3.out.below HB.out (Nat.le_refl _) (by omega))
            have s3 := HB3.out.size
            clear ho3 hg3 G3 HO HX HB xx xy lx
            obtain ⟨xx, xy⟩ := box_rules HX3.out
            have lx := box_lt HX3.out
            )
          rw [show bs0.length + 1 = (bs0 ++ [lb]).length by simp]
          have hle : (bs0 ++ [lb]).length ≤ bs0.length + 1 := by simp
          generalize hh : bs0 ++ [lb] = bs1 at *
          have HE1 := Lib.hid hh
          have HO := HO3; have HX := HX3; have HB := HB3
          clear hh HO3 HX3 HB3
          by_cases hkk : kk = 0
          · have Hkk := Lib.hid hkk
            have dkk : ((kk : Int) != 0) = false := by simp; omega
            clear hkk
            go_upto_region 12 with fail
            have HF : Hid (bs ++ tx1 k ⟨kk, x1, x2, x3⟩ = bs1 ++ [58] ++ Lib.itoa (max 0 (x3 - x2))) := Lib.hid (by unfold tx1; dsimp only; rw [if_pos (show 0 < k by have := Hk0.out; omega), if_pos (show (kk : Int) = 0 by have := Hkk.out; omega), ← HE1.out, ← HE0.out, HLb2.out]; simp [List.append_assoc])
            have hle5 : (bs1 ++ [58]).length = bs1.length + 1 := by simp
            have HL5 := Lib.hid hle5
            clear hle5
            have hwd : wrap64 (x3 - x2) = x3 - x2 := Go.IntWalk.wrap64_in _ (by omega)
            have hwi : IntKind.i64.wrap (x3 - x2) = x3 - x2 := IntWalk.i64_in _ (by omega)
            have xxA : ∀ o i, (w3.alloc o).cell? ⟨D, i, none⟩ = (#[Value.int .u8 kk, .int .i64 x1, .int .i64 x2, .int .i64 x3] : Array Value)[i]? := fun o i => (box_rules (box_alloc HX.out o)).1 i
            have xyA : ∀ o i, (w3.alloc o).frozen? ⟨D, i, none⟩ = false := fun o i => (box_rules (box_alloc HX.out o)).2 i
            go_region_law (first | (refine step_appK rfl _ _ slB (by decide) rfl (own_drewK (own_allocK HO.out _)) rfl (by omega) (by simp only [World.size_alloc, World.size_drew]; omega) w3.heap.size [.int .u8 58] rfl rfl (fun j u hu => new_cell hu) rfl ?_; intro A5 c5 w5 ho5 hg5 _; have HG5 := Lib.hid (grown_undrew hg5); have G5 := Lib.hid (grown_step HO.out HG5.out); have HX5 := Lib.hid (G5.out.other HX.out (by decide)); have HB5 := Lib.hid (G5.out.below HB.out (Nat.le_refl _) (by omega)); have HO5 := Lib.hid (own_bytes (bs' := [58]) ho5 (by rw [List.length_append]; rfl)); rw [HL5.out] at HO5; have s5 := HB5.out.size; clear ho5 hg5; obtain ⟨ux, uy⟩ := box_rules HX5.out) | (go_simp; go_at_call 25; refine (appInt_any w.heap.size c5 _ (bs1 ++ [58]) A5 _ w5 (by omega) (by omega) HO5.out HL5.out.symm (by omega) (by rw [HL5.out]; omega) (T2.out.on HB5.out)).mono ?_; rintro e w6 ⟨A6, c6, bs6, rfl, hh6, ho6, hb6, hk6⟩; have HX6 := Lib.hid (kept_box hk6 HX5.out); have HB6 := Lib.hid (HB5.out.trans hb6); have HO6 := Lib.hid ho6; have HH6 := Lib.hid hh6; clear hk6 hb6 ho6 hh6))
            all_goals
              go_wp2
              have hi6 := Lib.itoa_length_le (max 0 (x3 - x2)) (by omega) (by omega)
              have hl6 : bs6.length ≤ bs1.length + 22 := by rw [HH6.out, List.length_append, HL5.out]; omega
              refine ⟨⟨k + 1, A6, c6, bs6, by omega, by go_num, rfl, by omega, Lib.hid (by rw [HH6.out, ← HF.out]; exact HN.out), HO6, HB6⟩, ?_⟩
              simp [intOf]; omega
          · have Hkk := Lib.hid hkk
            have dkk : ((kk : Int) != 0) = true := by simp; omega
            clear hkk
            have hi := Lib.itoa_length_le x1 (by omega) (by omega)
            have HC := Lib.hid (appInt_any w.heap.size c3 _ bs1 A3 x1 w3 (by omega) (by omega) HO.out rfl (by omega) (by omega) (T2.out.on HB.out))
            go_upto_region 12 with (go_at_call 25; refine HC.out.mono ?_; rintro e w4 ⟨A4, c4, bs2, rfl, hh, ho4, hb4, hk4⟩; have hle2 : bs2.length ≤ bs1.length + 21 := (by rw [hh, List.length_append]; omega); have HE2 := Lib.hid hh; clear hh)
            have HO4 := Lib.hid ho4
            have HX4 := Lib.hid (kept_box hk4 HX.out)
            have HB4 := Lib.hid (HB.out.trans hb4)
            clear ho4 hk4 hb4 HC HO HX HB hi xx xy lx
            have HO := HO4; have HX := HX4; have HB := HB4
            clear HO4 HX4 HB4
            obtain ⟨xx, xy⟩ := box_rules HX.out
            have lx := box_lt HX.out
            have s4 := HB.out.size
            have HF : Hid (bs ++ tx1 k ⟨kk, x1, x2, x3⟩ = bs2 ++ [58] ++ Lib.itoa (max 0 (x3 - x2))) := Lib.hid (by unfold tx1; dsimp only; rw [if_pos (show 0 < k by have := Hk0.out; omega), if_neg (show ¬ (kk : Int) = 0 by have := Hkk.out; omega), HE2.out, ← HE1.out, ← HE0.out, HLb2.out]; simp [List.append_assoc])
            have hle5 : (bs2 ++ [58]).length = bs2.length + 1 := by simp
            have HL5 := Lib.hid hle5
            clear hle5
            have hwd : wrap64 (x3 - x2) = x3 - x2 := Go.IntWalk.wrap64_in _ (by omega)
            have hwi : IntKind.i64.wrap (x3 - x2) = x3 - x2 := IntWalk.i64_in _ (by omega)
            have xxA : ∀ o i, (w4.alloc o).cell? ⟨D, i, none⟩ = (#[Value.int .u8 kk, .int .i64 x1, .int .i64 x2, .int .i64 x3] : Array Value)[i]? := fun o i => (box_rules (box_alloc HX.out o)).1 i
            have xyA : ∀ o i, (w4.alloc o).frozen? ⟨D, i, none⟩ = false := fun o i => (box_rules (box_alloc HX.out o)).2 i
            go_region_law (first | (refine step_appK rfl _ _ slB (by decide) rfl (own_drewK (own_allocK HO.out _)) rfl (by omega) (by simp only [World.size_alloc, World.size_drew]; omega) w4.heap.size [.int .u8 58] rfl rfl (fun j u hu => new_cell hu) rfl ?_; intro A5 c5 w5 ho5 hg5 _; have HG5 := Lib.hid (grown_undrew hg5); have G5 := Lib.hid (grown_step HO.out HG5.out); have HX5 := Lib.hid (G5.out.other HX.out (by decide)); have HB5 := Lib.hid (G5.out.below HB.out (Nat.le_refl _) (by omega)); have HO5 := Lib.hid (own_bytes (bs' := [58]) ho5 (by rw [List.length_append]; rfl)); rw [HL5.out] at HO5; have s5 := HB5.out.size; clear ho5 hg5; obtain ⟨ux, uy⟩ := box_rules HX5.out) | (go_simp; go_at_call 25; refine (appInt_any w.heap.size c5 _ (bs2 ++ [58]) A5 _ w5 (by omega) (by omega) HO5.out HL5.out.symm (by omega) (by rw [HL5.out]; omega) (T2.out.on HB5.out)).mono ?_; rintro e w6 ⟨A6, c6, bs6, rfl, hh6, ho6, hb6, hk6⟩; have HX6 := Lib.hid (kept_box hk6 HX5.out); have HB6 := Lib.hid (HB5.out.trans hb6); have HO6 := Lib.hid ho6; have HH6 := Lib.hid hh6; clear hk6 hb6 ho6 hh6))
            all_goals
              go_wp2
              have hi6 := Lib.itoa_length_le (max 0 (x3 - x2)) (by omega) (by omega)
              have hl6 : bs6.length ≤ bs2.length + 22 := by rw [HH6.out, List.length_append, HL5.out]; omega
              refine ⟨⟨k + 1, A6, c6, bs6, by omega, by go_num, rfl, by omega, Lib.hid (by rw [HH6.out, ← HF.out]; exact HN.out), HO6, HB6⟩, ?_⟩
              simp [intOf]; omega
      · obtain ⟨x0, x1, x2, x3⟩ := x
        have HR0 := Lib.hid (show R = none by rw [← HG2.out, if_neg hok])
        unfold okR at hok
        dsimp only at *
        clear HG2
        cases hb1 : tmB x2 with
        | false =>
          rw [hb1] at c1
          clear hok hb1
          go_wp2_with (first | ((with_reducible refine (c1.out _).mono ?_); rintro e w' ⟨rfl, rfl⟩) | ((with_reducible refine (c2.out _).mono ?_); rintro e w' ⟨rfl, rfl⟩))
          refine bodyPost_ret (results_tmp2 rfl _ _ _) rfl ?_
          exact ⟨by rw [HCc.out, HR0.out]; rfl, hSr.out.alloc hSr.out.size _⟩
        | true =>
          rw [hb1] at c1
          cases hb2 : tmB x3 with
          | false =>
            rw [hb2] at c2
            clear hok hb1 hb2
            go_wp2_with (first | ((with_reducible refine (c1.out _).mono ?_); rintro e w' ⟨rfl, rfl⟩) | ((with_reducible refine (c2.out _).mono ?_); rintro e w' ⟨rfl, rfl⟩))
            refine bodyPost_ret (results_tmp2 rfl _ _ _) rfl ?_
            exact ⟨by rw [HCc.out, HR0.out]; rfl, hSr.out.alloc hSr.out.size _⟩
          | true =>
            rw [hb2] at c2
            rw [hb1, hb2] at hok
            by_cases b3 : 4 ≤ x0
            · clear hok hb1 hb2
              go_wp2_with (first | ((with_reducible refine (c1.out _).mono ?_); rintro e w' ⟨rfl, rfl⟩) | ((with_reducible refine (c2.out _).mono ?_); rintro e w' ⟨rfl, rfl⟩))
              refine bodyPost_ret (results_tmp2 rfl _ _ _) rfl ?_
              exact ⟨by rw [HCc.out, HR0.out]; rfl, hSr.out.alloc hSr.out.size _⟩
            · have d1' : decide ((4 : Int) ≤ x0) = false := by simp; omega
              by_cases b4 : x1 < 0
              · clear hok hb1 hb2
                go_wp2_with (first | ((with_reducible refine (c1.out _).mono ?_); rintro e w' ⟨rfl, rfl⟩) | ((with_reducible refine (c2.out _).mono ?_); rintro e w' ⟨rfl, rfl⟩))
                refine bodyPost_ret (results_tmp2 rfl _ _ _) rfl ?_
                exact ⟨by rw [HCc.out, HR0.out]; rfl, hSr.out.alloc hSr.out.size _⟩
              · have d2' : decide (x1 < 0) = false := by simp; omega
                by_cases b5 : 63 < x1
                · clear hok hb1 hb2
                  go_wp2_with (first | ((with_reducible refine (c1.out _).mono ?_); rintro e w' ⟨rfl, rfl⟩) | ((with_reducible refine (c2.out _).mono ?_); rintro e w' ⟨rfl, rfl⟩))
                  refine bodyPost_ret (results_tmp2 rfl _ _ _) rfl ?_
                  exact ⟨by rw [HCc.out, HR0.out]; rfl, hSr.out.alloc hSr.out.size _⟩
                · exact absurd (decide_eq_true ⟨rfl, rfl, by omega, by omega, by omega⟩) hok
    · obtain rfl : k = l.length := by omega
      have HN := Lib.hid (show some bs = R by rw [← HG.out, List.drop_length]; rfl)
      have hcv := str_any HOr.out
      go_wp2
      refine bodyPost_ret (results_tmp2 rfl _ _ _) rfl ?_
      exact ⟨by rw [HCc.out, ← HN.out]; rfl, hSr.out⟩
end Go.Proofs.YtlmhgfgdkenpfaaDoor

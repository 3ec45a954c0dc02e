/- What all cards of this seat share: the bulk of a reading, arguments that read behind the call as before, the post of a law, opened arguments. Conditions: below the heap's old size nothing turns. -/
import Derived.Test.YtpncbkodhojicaaDoorRows
import Derived.WalkKit
import Derived.ProofKit
import Derived.OpenShut
import Derived.Below
import Derived.ChangeSame
import Derived.Carry
import Derived.ChangeSlices
import Derived.Lib.SmallJoins
import Derived.Deep.DeepHandedRow
import Derived.JoinedCond
import Derived.Test.YtpncbkodhojicaaDoorKit
import Derived.Deep.Slices
import Derived.Test.YtpncbkodhojicaaDoorEachI
import Derived.Test.YtpncbkodhojicaaDoorQdQIc
import Derived.Lib.LaidTab
namespace Go.Proofs.YtpncbkodhojicaaDoor.top
open Go.ChangeShapes Go.WideShapes Go.ChangeAt Go.RowKit Go.Deep

theorem own : ownKnob Tryd.prog.godebug = none := by kernel_rfl
theorem laidOut : laidOutB Tryd.prog = true := by kernel_rfl

/-! The bulk. -/
theorem one_le {H : Type} (d : DataW H) : 1 ≤ Rows.uptoBulk d := by
  cases d with
  | lit l => cases l <;> simp [Rows.uptoBulk]
  | nil => simp [Rows.uptoBulk]
  | ptr d => simp [Rows.uptoBulk]
  | slice elems spare => simp [Rows.uptoBulk]
  | agg parts => simp [Rows.uptoBulk]
  | iface t d => simp [Rows.uptoBulk]
  | map entries => simp [Rows.uptoBulk]
  | held h => simp [Rows.uptoBulk]
theorem part_le {H : Type} {d : DataW H} {l : List (DataW H)} (h : d ∈ l) : Rows.uptoBulk d ≤ Rows.uptoBulkAll l := by
  induction l with
  | nil => cases h
  | cons x r ih =>
    simp only [Rows.uptoBulkAll]
    cases List.mem_cons.1 h with
    | inl e => subst e; omega
    | inr e => have := ih e; omega
theorem agg_le {H : Type} {d : DataW H} {l : List (DataW H)} (h : d ∈ l) : Rows.uptoBulk d ≤ Rows.uptoBulk (.agg l) := by
  have := part_le h
  simp only [Rows.uptoBulk]
  omega
theorem length_le {H : Type} (l : List (DataW H)) : l.length ≤ Rows.uptoBulkAll l := by
  induction l with
  | nil => simp [Rows.uptoBulkAll]
  | cons x r ih => have := one_le x; simp only [Rows.uptoBulkAll, List.length_cons]; omega
theorem slice_le {H : Type} (elems spare : List (DataW H)) : elems.length + spare.length + 1 ≤ Rows.uptoBulk (.slice elems spare) := by
  have h1 := length_le elems
  have h2 := length_le spare
  simp only [Rows.uptoBulk]
  omega
theorem bound {H : Type} {l : List (DataW H)} (h : Rows.uptoSmall H l = true) : Rows.uptoBulkAll l ≤ 1048576 := of_decide_eq_true h

/-! Arguments that read as before; the post of a law. -/
section
variable {H : Type} {enc : TypeId × Value → H} {P : Program}
theorem trodAll_stays (hl : laidOutB P = true) {W W' : World} {sp : Nat → Bool} (hb : Below W.heap.size W W') : ∀ {ts : List TypeId} {vs : List Value} {ds : List (DataW H)} {ps : List MemPlace},
    DataW.TrodAll enc P W 0 (fun _ => true) true ts vs ds ps → (∀ t ∈ ts, P.readableRec t = true ∧ t < P.types.size) → (∀ x ∈ ps, x.block < W.heap.size) → (∀ x ∈ ps, sp x.block = true) → DataW.TrodAll enc P W' 0 sp true ts vs ds ps
  | [], vs, ds, ps, h, _, _, _ => by
    obtain ⟨rfl, rfl, rfl⟩ := trodAll_nil h
    exact trodAll_mk0
  | t :: ts, vs, ds, ps, h, hk, hlt, hsp => by
    obtain ⟨v, vs', d, ds', p, q, rfl, rfl, rfl, h0, r0⟩ := trodAll_cons h
    refine trodAll_cons_mk ?_ (trodAll_stays hl hb r0 (fun t ht => hk t (by simp [ht])) (fun x hx => hlt x (by simp [hx])) (fun x hx => hsp x (by simp [hx])))
    exact WideElems.Trod_stays hl (hk t (by simp)).1 (hk t (by simp)).2 h0 (fun x hx => hb.same (hlt x (by simp [hx]))) (fun x hx => hsp x (by simp [hx]))

theorem post_of_below {f : Func} {s : ChangeSpec} {apart fresh handsOn again : Bool} {W W' : World} {args : Array Value} {v : Value} {ds gs : List (DataW H)} {before pa pv : List MemPlace}
    (hW : DataW.Whole enc P f.params.toList s.vars apart W args.toList ds gs before)
    (hres : ∀ (b : Nat) (sp : Nat → Bool) (hd : Bool), DataW.TrodAll enc P W' b sp hd f.resultTypes.toList (v.resultList f.resultTypes.size) (s.fn H (ds ++ gs)).results [])
    (hargs : ∀ sp : Nat → Bool, (∀ p ∈ before, sp p.block = true) → DataW.TrodAll enc P W' 0 sp true f.params.toList args.toList (s.fn H (ds ++ gs)).args pa)
    (hvars : ∀ sp : Nat → Bool, (∀ p ∈ before, sp p.block = true) → DataW.TrodVars enc P W' sp s.vars (s.fn H (ds ++ gs)).vars pv)
    (hps : before = pa ++ pv) (hb : Below W.heap.size W W')
    (hok : ∀ (j : Nat) (t : TypeId) (r : Value), f.resultTypes[j]? = some t → (v.resultList f.resultTypes.size)[j]? = some r → Value.okWide P W' .any 0 t r) :
    s.post enc P f apart fresh handsOn again W args v W' := by
  have hlt : ∀ p ∈ before, p.block < W.heap.size := fun p hp => hW.lt p hp
  have hold : ∀ p ∈ before, (fun b => decide (b < W.heap.size)) p.block = true := fun p hp => by simpa using hlt p hp
  refine ⟨ds, gs, before, [], pa, pv, hW, hres _ _ _, hargs _ hold, hvars _ hold, World.keptBut_mono (fun p hp => ⟨hp, ?_⟩) (hb.frame (· ∈ before)), fun _ => ?_⟩
  · rw [hps, List.mem_append] at hp
    exact Or.inr hp
  · obtain ⟨_, _, _, _, _, hz, hn⟩ := hW
    refine ⟨hok, _, _, ([] ++ pa) ++ pv, ⟨[] ++ pa, pv, trodAll_append (hargs _ (fun _ _ => rfl)) (hres _ _ _), hvars _ (fun _ _ => rfl), rfl, ?_, ?_⟩, ?_⟩
    · intro b off hp
      have hin : MemPlace.cell b off ∈ before := by rw [hps]; simpa using hp
      rw [hb.frozen (hlt _ hin)]
      exact hz b off hin
    · intro ha
      have := hn ha
      rw [hps] at this
      simpa using this
    · intro p hp _
      rw [hps]
      simpa using hp

/-- THE POST OF A LAW: it answered true, and below the heap's old size nothing has turned. -/
theorem law_post {f : Func} {s : ChangeSpec} {W W' : World} {args : Array Value} {ds gs : List (DataW H)} {before : List MemPlace} {tb : TypeId} (hl : laidOutB P = true) (hub : P.underlying tb = some .bool)
    (hv : s.vars = []) (hr : f.resultTypes = #[tb]) (hf1 : (s.fn H ds).results = [.lit (.bool true)]) (hf2 : (s.fn H ds).args = ds) (hf3 : (s.fn H ds).vars = [])
    (hW : DataW.Whole enc P f.params.toList s.vars false W args.toList ds gs before) (hk : ∀ t ∈ f.params.toList, P.readableRec t = true ∧ t < P.types.size)
    (hb : Below W.heap.size W W') : s.post enc P f false true false false W args (.bool true) W' := by
  have hW' := hW
  have hlt : ∀ p ∈ before, p.block < W.heap.size := fun p hp => hW.lt p hp
  obtain ⟨p, q, hA, hV, rfl, hfz, hnd⟩ := hW
  rw [hv] at hV
  obtain ⟨rfl, rfl⟩ := trodVars_none hV
  refine post_of_below (pa := p) (pv := []) hW' ?_ ?_ ?_ rfl hb (ok_one hr rfl (okWide_bool_mk hub _))
  · intro b sp hd
    rw [hr, List.append_nil, hf1]
    exact trodAll_cons_mk (shut_bool hub _) trodAll_mk0
  · intro sp hsp
    rw [List.append_nil, hf2]
    exact trodAll_stays hl hb hA hk (fun x hx => hlt x (by simp [hx])) (fun x hx => hsp x (by simp [hx]))
  · intro sp _
    rw [List.append_nil, hf3, hv]
    rfl

/-! Opened arguments. -/
theorem open_struct {r : Reach} {b0 : Nat} {w : World} {base : Nat} {spare : Nat → Bool} {held : Bool} {t : TypeId} {fs : Array Field} {v : Value} {d : DataW H} {p : List MemPlace} (hs : P.underlying t = some (.struct fs)) (hone : oneCellFields P fs = true) (hC : P.cellsOf t = fs.size)
    (hv : Value.okWide P w r b0 t v) (h : DataW.Trod enc P w base spare held t v d p) :
    ∃ (cs : List Value) (ys : List (DataW H × List MemPlace)) (n : Nat), v = .agg cs.toArray ∧ cs.length = fs.size ∧ d = .agg (ys.map (·.1)) ∧ ys.length = fs.size ∧
      ∀ (j : Nat) (f : Field), fs[j]? = some f → ∃ u y, cs[j]? = some u ∧ ys[j]? = some y ∧ DataW.trod enc P w base spare held n f.type [u] = some y := by
  obtain ⟨cs, rfl, hsz⟩ := okWide_struct hs hv
  obtain ⟨l⟩ := cs
  obtain ⟨fuel, hf⟩ := h
  obtain ⟨xs, n, _, hx, hcl, hlen, hg⟩ := DataW.trod_struct hs hf
  simp only [Prod.mk.injEq] at hx
  have hl : l.length = fs.size := by rw [← hC]; exact hsz
  refine ⟨l, xs, n, rfl, hl, hx.1, hlen, fun j f hj => ?_⟩
  obtain ⟨ho, hk⟩ := hone_of hone j f hj
  have hjl : j < fs.size := (Array.getElem?_eq_some_iff.1 hj).1
  have h1 := hg j f hj
  rw [ho, hk] at h1
  have hone' : ((Value.agg l.toArray).cells.toList.drop j).take 1 = [l[j]'(by omega)] := by
    show (l.drop j).take 1 = _
    rw [List.drop_eq_getElem_cons (by omega)]
    rfl
  rw [hone'] at h1
  have hys : xs[j]? = some (xs[j]'(by omega)) := List.getElem?_eq_getElem (by omega)
  exact ⟨_, _, List.getElem?_eq_getElem (by omega), hys, h1.trans hys⟩
end
end Go.Proofs.YtpncbkodhojicaaDoor.top
/- Statements of this seat: words, lists and slices of structs that were handed in. Conditions: none. -/
namespace Go.Proofs.YtpncbkodhojicaaDoor.top
open Go.ChangeShapes Go.WideShapes Go.ChangeAt Go.RowKit Go.Deep

section
variable {H : Type} {enc : TypeId × Value → H} {P : Program} {w : World} {base : Nat} {spare : Nat → Bool} {held : Bool}
theorem open_int_slice {t e : TypeId} {k : IntKind} (ht : P.underlying t = some (.slice e)) (he : P.underlying e = some (.int k)) (hc : P.cellsOf e = 1) {n : Nat} {u : Value} {y : DataW H × List MemPlace}
    (h : DataW.trod enc P w base spare held n t [u] = some y) : ∃ A cap xs, u = .slice A (xs : List Int).length cap ∧ Rd w A (xs.map (.int k)) ∧ xs.length + 1 ≤ Rows.uptoBulk y.1 := by
  rcases open_ints ht he hc h with ⟨h1, rfl⟩ | ⟨a, len, cap, zs, h1, hb, hl, hm, hz, rfl, hcell, hwf⟩
  · injection h1 with h1
    subst h1
    exact ⟨none, 0, [], rfl, Rd.nil _ _, by simp [Rows.uptoBulk]⟩
  · injection h1 with h1
    subst h1
    have hlen : len ≤ zs.length := by rw [hz]; split <;> omega
    refine ⟨some a, cap, zs.take len, ?_, ?_, ?_⟩
    · rw [List.length_take, Nat.min_eq_left hlen]
    · intro i u hu
      rw [List.getElem?_map, List.getElem?_take] at hu
      split at hu
      · rename_i hi
        have hi2 : i < zs.length := by omega
        rw [List.getElem?_eq_getElem hi2] at hu
        simp at hu
        subst hu
        refine ⟨a, rfl, ?_⟩
        have := hcell i hi2
        simpa [List.getD, hi2] using this
      · simp at hu
    · have := slice_le (H := H) (lits k (zs.take len)) (lits k (zs.drop len))
      show _ ≤ Rows.uptoBulk (DataW.slice (lits k (zs.take len)) (lits k (zs.drop len)))
      have e : (lits (H := H) k (zs.take len)).length = (zs.take len).length := List.length_map _
      omega
theorem open_nat64 {t : TypeId} (ht : P.underlying t = some (.int .u64)) {n : Nat} {u : Value} {y : DataW H × List MemPlace}
    (h : DataW.trod enc P w base spare held n t [u] = some y) : ∃ m : Nat, u = .int .u64 m ∧ m < 18446744073709551616 := by
  obtain ⟨z, h1, _, hw⟩ := DataW.trod_int ht h
  injection h1 with h1
  have h2 : 0 ≤ z ∧ z < 18446744073709551616 := by
    simp [Lit.wf] at hw
    rw [show IntKind.u64.min = 0 by kernel_rfl, show IntKind.u64.max = 18446744073709551615 by kernel_rfl] at hw
    omega
  obtain ⟨m, rfl⟩ := Int.eq_ofNat_of_zero_le h2.1
  exact ⟨m, h1, by omega⟩
theorem open_i64 {t : TypeId} (ht : P.underlying t = some (.int .i64)) {n : Nat} {u : Value} {y : DataW H × List MemPlace}
    (h : DataW.trod enc P w base spare held n t [u] = some y) : ∃ m : Int, u = .int .i64 m := by
  obtain ⟨z, h1, _, hw⟩ := DataW.trod_int ht h
  injection h1 with h1
  exact ⟨z, h1⟩
end

theorem open_top_ints {H : Type} {enc : TypeId × Value → H} {P : Program} {w : World} {base : Nat} {spare : Nat → Bool} {held : Bool} {r : Reach} {b0 : Nat} {t e : TypeId} {k : IntKind} {v : Value} {d : DataW H} {p : List MemPlace} (ht : P.underlying t = some (.slice e)) (he : P.underlying e = some (.int k)) (hc : P.cellsOf e = 1)
    (hv : Value.okWide P w r b0 t v) (h : DataW.Trod enc P w base spare held t v d p) : ∃ A cap xs, v = .slice A (xs : List Int).length cap ∧ Rd w A (xs.map (.int k)) ∧ xs.length + 1 ≤ Rows.uptoBulk d := by
  obtain ⟨n, hn⟩ := h
  obtain ⟨a, m, c, rfl⟩ := okWide_slice ht hv
  exact open_int_slice ht he hc hn
theorem open_cap {H : Type} {enc : TypeId × Value → H} {P : Program} {w : World} {base : Nat} {spare : Nat → Bool} {held : Bool} {t e : TypeId} (ht : P.underlying t = some (.slice e)) {fuel : Nat} {A : Option Addr} {n c : Nat} {x : DataW H × List MemPlace}
    (h : DataW.trod enc P w base spare held fuel t [.slice A n c] = some x) : n ≤ c := by
  rcases open_slice ht h with ⟨h1, _⟩ | ⟨a, len, cap, m, n1, D, Pl, h1, _, hl, _⟩
  · injection h1 with h1
    injection h1 with _ h2 h3
    subst h2; subst h3; exact Nat.le_refl _
  · injection h1 with h1
    injection h1 with _ h2 h3
    subst h2; subst h3; exact hl
theorem open_top_k {H : Type} {enc : TypeId × Value → H} {P : Program} {w : World} {base : Nat} {spare : Nat → Bool} {held : Bool} {r : Reach} {b0 : Nat} {t : TypeId} {v : Value} {d : DataW H} {p : List MemPlace} {k : IntKind} (ht : P.underlying t = some (.int k))
    (hv : Value.okWide P w r b0 t v) (h : DataW.Trod enc P w base spare held t v d p) : ∃ m : Int, v = .int k m := by
  obtain ⟨z, rfl, _, _, hw⟩ := open_int ht hv h
  exact ⟨z, rfl⟩

theorem flatten_get {α : Type} {s : Nat} (hs : 0 < s) : ∀ (rows : List (List α)), (∀ r ∈ rows, r.length = s) → ∀ (k : Nat), rows.flatten[k]? = (rows[k / s]?).bind fun r => r[k % s]?
  | [], _, k => by simp
  | r :: rows, h, k => by
    have hr : r.length = s := h r (by simp)
    rw [List.flatten_cons]
    by_cases hk : k < s
    · rw [List.getElem?_append_left (by omega), Nat.div_eq_of_lt hk, Nat.mod_eq_of_lt hk]
      rfl
    · rw [List.getElem?_append_right (by omega), flatten_get hs rows (fun r' h' => h r' (by simp [h'])), hr]
      obtain ⟨q, hq⟩ : ∃ q, k = q + s := ⟨k - s, by omega⟩
      subst hq
      rw [Nat.add_sub_cancel, Nat.add_div_right q hs, Nat.add_mod_right]
      rfl
theorem rows_of {α β : Type} {f : α → β} : ∀ (rows : List β), (∀ r ∈ rows, ∃ x, r = f x) → ∃ xs : List α, rows = xs.map f
  | [], _ => ⟨[], rfl⟩
  | r :: rows, h => by
    obtain ⟨x, rfl⟩ := h r (by simp)
    obtain ⟨xs, rfl⟩ := rows_of rows (fun r' h' => h r' (by simp [h']))
    exact ⟨x :: xs, rfl⟩
section
variable {H : Type} {enc : TypeId × Value → H} {P : Program} {w : World} {base : Nat} {spare : Nat → Bool} {held : Bool}
/-- A slice of structs of one-cell fields: its cells, row by row. -/
theorem open_rows {t e : TypeId} {fs : Array Field} {n : Nat} {u : Value} {y : DataW H × List MemPlace} (ht : P.underlying t = some (.slice e)) (he : P.underlying e = some (.struct fs))
    (hone : oneCellFields P fs = true) (hC : P.cellsOf e = fs.size) (h0 : 0 < fs.size) (h : DataW.trod enc P w base spare held n t [u] = some y) :
    ∃ (A : Option Addr) (cap : Nat) (rows : List (List Value)), u = .slice A rows.length cap ∧ Rd w A rows.flatten ∧ rows.length + 1 ≤ Rows.uptoBulk y.1 ∧
      ∀ r ∈ rows, r.length = fs.size ∧ ∃ n', ∀ (j : Nat) (f : Field), fs[j]? = some f → ∃ v y', r[j]? = some v ∧ DataW.trod enc P w base spare held n' f.type [v] = some y' ∧ Rows.uptoBulk y'.1 ≤ Rows.uptoBulk y.1 := by
  rcases open_slice ht h with ⟨h1, rfl⟩ | ⟨a, len, cap, m, n1, D, Pl, h1, hb, hl, hm, hmm, rfl, hi⟩
  · injection h1 with h1
    subst h1
    exact ⟨none, 0, [], rfl, Rd.nil _ _, by simp [Rows.uptoBulk], fun r hr => by cases hr⟩
  · injection h1 with h1
    subst h1
    have hlm : len ≤ m := by rw [hmm]; split <;> omega
    have hrow : ∀ i : Nat, ∃ r : List Value, i < len → w.cells? base (a.add (i * P.cellsOf e)) (P.cellsOf e) = some r ∧ DataW.trod enc P w base spare held n1 e r = some (D i, Pl i) := by
      intro i
      by_cases hil : i < len
      · obtain ⟨r, hr⟩ := hi i (by omega)
        exact ⟨r, fun _ => hr⟩
      · exact ⟨[], fun h => absurd h hil⟩
    obtain ⟨R, hR⟩ := Classical.axiomOfChoice hrow
    have hlen : ((List.range len).map R).length = len := by simp
    have hsz : ∀ r ∈ (List.range len).map R, r.length = fs.size := by
      intro r hr
      obtain ⟨i, hi', rfl⟩ := List.mem_map.1 hr
      have := (World.cells?_some (hR i (List.mem_range.1 hi')).1).2.1
      rw [this, hC]
    refine ⟨some a, cap, (List.range len).map R, by rw [hlen], ?_, ?_, ?_⟩
    · intro k v hv
      rw [flatten_get h0 _ hsz k] at hv
      cases hq : ((List.range len).map R)[k / fs.size]? with
      | none => rw [hq] at hv; cases hv
      | some r =>
        rw [hq] at hv
        have hv' : r[k % fs.size]? = some v := hv
        obtain ⟨hq1, hq2⟩ := List.getElem?_eq_some_iff.1 hq
        rw [hlen] at hq1
        rw [List.getElem_map, List.getElem_range] at hq2
        subst hq2
        have hc := (World.cells?_some (hR _ hq1).1).2.2 (k % fs.size) (by rw [hC]; exact Nat.mod_lt _ h0)
        rw [add_add, hC, Nat.div_add_mod'] at hc
        exact ⟨a, rfl, hc.trans hv'⟩
    · have := slice_le (H := H) ((List.range len).map D) ((List.range (m - len)).map fun j => D (len + j))
      show _ ≤ Rows.uptoBulk (DataW.slice _ _)
      simp only [List.length_map, List.length_range] at this ⊢
      omega
    · intro r hr
      refine ⟨hsz r hr, ?_⟩
      obtain ⟨i, hi', rfl⟩ := List.mem_map.1 hr
      obtain ⟨hc, htr⟩ := hR i (List.mem_range.1 hi')
      obtain ⟨xs, n', _, hx, _, hxl, hg⟩ := DataW.trod_struct he htr
      simp only [Prod.mk.injEq] at hx
      refine ⟨n', fun j f hj => ?_⟩
      obtain ⟨ho, hk⟩ := hone_of hone j f hj
      have hjl : j < fs.size := (Array.getElem?_eq_some_iff.1 hj).1
      have hrl := hsz (R i) hr
      have h2 := hg j f hj
      rw [ho, hk] at h2
      have hone' : ((R i).drop j).take 1 = [(R i)[j]'(by omega)] := by
        rw [List.drop_eq_getElem_cons (by omega)]
        rfl
      rw [hone'] at h2
      have hys : xs[j]? = some (xs[j]'(by omega)) := List.getElem?_eq_getElem (by omega)
      refine ⟨_, _, List.getElem?_eq_getElem (by omega), h2.trans hys, ?_⟩
      have k1 : Rows.uptoBulk (xs[j]'(by omega)).1 ≤ Rows.uptoBulk (D i) := by
        rw [hx.1]
        exact agg_le (List.mem_map.2 ⟨_, List.getElem_mem _, rfl⟩)
      have k2 : Rows.uptoBulk (D i) ≤ Rows.uptoBulkAll ((List.range len).map D) := part_le (List.mem_map.2 ⟨i, hi', rfl⟩)
      show _ ≤ Rows.uptoBulk (DataW.slice _ _)
      simp only [Rows.uptoBulk]
      omega
/-- A slice of pairs of integers. -/
theorem open_pairs {t e : TypeId} {f0 f1 : Field} {n : Nat} {u : Value} {y : DataW H × List MemPlace} (ht : P.underlying t = some (.slice e)) (he : P.underlying e = some (.struct #[f0, f1]))
    (hone : oneCellFields P #[f0, f1] = true) (hC : P.cellsOf e = 2) (i0 : P.underlying f0.type = some (.int .i64)) (i1 : P.underlying f1.type = some (.int .i64)) (h : DataW.trod enc P w base spare held n t [u] = some y) :
    ∃ (A : Option Addr) (cap : Nat) (xs : List (Int × Int)), u = .slice A xs.length cap ∧ Rd w A (xs.flatMap fun x => [.int .i64 x.1, .int .i64 x.2]) ∧ xs.length + 1 ≤ Rows.uptoBulk y.1 := by
  obtain ⟨A, cap, rows, rfl, hr, hb, hrow⟩ := open_rows ht he hone hC (by show 0 < 2; decide) h
  obtain ⟨xs, rfl⟩ := rows_of (f := fun x : Int × Int => [Value.int .i64 x.1, Value.int .i64 x.2]) rows (fun r hr' => by
    obtain ⟨hl, n', hf⟩ := hrow r hr'
    obtain ⟨v0, y0, c0, g0, _⟩ := hf 0 _ rfl
    obtain ⟨v1, y1, c1, g1, _⟩ := hf 1 _ rfl
    obtain ⟨a, rfl⟩ := open_i64 i0 g0
    obtain ⟨b, rfl⟩ := open_i64 i1 g1
    have hl' : r.length = 2 := hl
    match r, hl', c0, c1 with
    | [x0, x1], _, c0, c1 =>
      simp at c0 c1
      subst c0 c1
      exact ⟨(a, b), rfl⟩)
  refine ⟨A, cap, xs, by rw [List.length_map], ?_, by simpa using hb⟩
  rw [List.flatMap_def]
  exact hr
end
end Go.Proofs.YtpncbkodhojicaaDoor.top
/- Cards of this seat: lists of lines and of acts that were handed in; the table; a world for the witness. Conditions: the reading's bulk. -/
namespace Go.Proofs.YtpncbkodhojicaaDoor.top
open Go.ChangeShapes Go.WideShapes Go.ChangeAt Go.RowKit Go.Deep
section
variable {H : Type} {enc : TypeId × Value → H} {w : World} {base : Nat} {spare : Nat → Bool} {held : Bool} {n : Nat} {u : Value} {y : DataW H × List MemPlace}
theorem open_lines (h : DataW.trod enc Tryd.prog w base spare held n 22 [u] = some y) :
    ∃ (A : Option Addr) (cap : Nat) (ts : List Ln), u = .slice A ts.length cap ∧ Rd w A (ts.flatMap lnc) ∧ ts.length + 1 ≤ Rows.uptoBulk y.1 := by
  obtain ⟨A, cap, rows, rfl, hr, hb, hrow⟩ := open_rows Tryd.underlying22 Tryd.underlying46 (by kernel_rfl) (by kernel_rfl) (by decide) h
  obtain ⟨ts, rfl⟩ := rows_of (f := lnc) rows (fun r hr' => by
    obtain ⟨hl, n', hf⟩ := hrow r hr'
    obtain ⟨v0, _, c0, g0, _⟩ := hf 0 _ rfl
    obtain ⟨v1, _, c1, g1, _⟩ := hf 1 _ rfl
    obtain ⟨v2, _, c2, g2, _⟩ := hf 2 _ rfl
    obtain ⟨v3, _, c3, g3, _⟩ := hf 3 _ rfl
    obtain ⟨a0, rfl⟩ := open_i64 Tryd.underlying3 g0
    obtain ⟨a1, rfl⟩ := open_i64 Tryd.underlying2 g1
    obtain ⟨a2, rfl⟩ := open_i64 Tryd.underlying3 g2
    obtain ⟨a3, rfl⟩ := open_i64 Tryd.underlying2 g3
    have hl' : r.length = 4 := hl
    refine ⟨⟨a0, a1, a2, a3⟩, ?_⟩
    match r, hl', c0, c1, c2, c3 with
    | [_, _, _, _], _, c0, c1, c2, c3 =>
      simp at c0 c1 c2 c3
      subst c0 c1 c2 c3
      rfl)
  refine ⟨A, cap, ts, by rw [List.length_map], ?_, by simpa using hb⟩
  rw [List.flatMap_def]
  exact hr
theorem open_qacts (h : DataW.trod enc Tryd.prog w base spare held n 23 [u] = some y) :
    ∃ (A : Option Addr) (cap : Nat) (ts : List Aq), u = .slice A ts.length cap ∧ Rd w A (ts.flatMap aqc) ∧ ts.length + 1 ≤ Rows.uptoBulk y.1 := by
  obtain ⟨A, cap, rows, rfl, hr, hb, hrow⟩ := open_rows Tryd.underlying23 Tryd.underlying36 (by kernel_rfl) (by kernel_rfl) (by decide) h
  obtain ⟨ts, rfl⟩ := rows_of (f := aqc) rows (fun r hr' => by
    obtain ⟨hl, n', hf⟩ := hrow r hr'
    obtain ⟨v0, _, c0, g0, _⟩ := hf 0 _ rfl
    obtain ⟨v1, _, c1, g1, _⟩ := hf 1 _ rfl
    obtain ⟨v2, _, c2, g2, _⟩ := hf 2 _ rfl
    obtain ⟨v3, _, c3, g3, _⟩ := hf 3 _ rfl
    obtain ⟨a0, rfl⟩ := open_i64 Tryd.underlying3 g0
    obtain ⟨a1, rfl⟩ := open_i64 Tryd.underlying3 g1
    obtain ⟨a2, rfl⟩ := open_i64 Tryd.underlying2 g2
    obtain ⟨a3, rfl⟩ := open_i64 Tryd.underlying2 g3
    have hl' : r.length = 4 := hl
    refine ⟨⟨a0, a1, a2, a3⟩, ?_⟩
    match r, hl', c0, c1, c2, c3 with
    | [_, _, _, _], _, c0, c1, c2, c3 =>
      simp at c0 c1 c2 c3
      subst c0 c1 c2 c3
      rfl)
  refine ⟨A, cap, ts, by rw [List.length_map], ?_, by simpa using hb⟩
  rw [List.flatMap_def]
  exact hr
end
theorem gTab : Tryd.prog.globalNamed "math/bits.deBruijn64tab" = some 0 := by kernel_rfl
/-- A WORLD FOR THE WITNESS: the settled one, the table holding what its initialiser lays. -/
noncomputable def laidWorld (os : Os) : World :=
  { World.holding Tryd.prog os ⟨#[], #[], []⟩ with heap := (World.holding Tryd.prog os ⟨#[], #[], []⟩).heap.modify 0 fun
      | .cells _ t frozen => .cells (Lib.deBruijn64tab.map fun (z : Nat) => Value.int .u8 (z : Int)).toArray t frozen
      | o => o }
end Go.Proofs.YtpncbkodhojicaaDoor.top

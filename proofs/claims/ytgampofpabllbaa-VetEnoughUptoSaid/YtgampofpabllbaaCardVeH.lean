/- VetEnough: of all arguments of bulk at most 1048576, and whatever memory, VetEnough answers true. Conditions: the reading's bulk. -/
import Derived.Test.YtgampofpabllbaaTopM
import Derived.Test.YtgampofpabllbaaVeH
namespace Go.Proofs.Ytgampofpabllbaa.top
open Go.ChangeShapes Go.WideShapes Go.ChangeAt Go.RowKit Go.Deep
set_option maxRecDepth 100000 in
set_option maxHeartbeats 1000000 in
theorem open_config2 {H : Type} {enc : TypeId × Value → H} {r : Reach} {b0 : Nat} {w : World} {base : Nat} {spare : Nat → Bool} {held : Bool} {v : Value} {d : DataW H} {p : List MemPlace}
    (hv : Value.okWide Try.prog w r b0 28 v) (h : DataW.Trod enc Try.prog w base spare held 28 v d p) (hd : Rows.uptoBulk d ≤ 1048576) :
    ∃ (mn mx sw : Int) (ts : List Tk) (ls : List Ln) (hs : List Th) (A : Option Addr) (ca : Nat) (B : Option Addr) (cb : Nat) (D : Option Addr) (cd : Nat),
      v = cfv mn mx sw A ts.length ca B ls.length cb D hs.length cd ∧ ts.length ≤ 1048576 ∧ ls.length ≤ 1048576 ∧ hs.length ≤ 1048576 ∧
      Rd w A (ts.flatMap tkc) ∧ Rd w B (ls.flatMap lnc) ∧ Rd w D (hs.flatMap thc) ∧ ts.length ≤ ca ∧ I64 mx ∧ ∀ p ∈ ts.map (·.prio) ++ hs.map (·.prio), I64 p := by
  obtain ⟨cs, rfl, hsz⟩ := okWide_struct Try.underlying28 hv
  obtain ⟨l⟩ := cs
  have hl : l.length = 6 := by
    have e : Try.prog.cellsOf 28 = 6 := by kernel_rfl
    rw [← e]; exact hsz
  obtain ⟨fuel, hf⟩ := h
  obtain ⟨xs, n, _, hx, _, hlen, hg⟩ := DataW.trod_struct Try.underlying28 hf
  simp only [Prod.mk.injEq] at hx
  have hlen' : xs.length = 5 := hlen
  match l, hl with
  | [e0, e1, e2, e3, e4, e5], _ =>
    have g0 : DataW.trod enc Try.prog w base spare held n 23 [e0, e1] = xs[0]? := by
      have : DataW.trod enc Try.prog w base spare held n 23 (List.take (Try.prog.cellsOf 23) (List.drop 0 [e0, e1, e2, e3, e4, e5])) = xs[0]? := hg 0 _ rfl
      rw [show Try.prog.cellsOf 23 = 2 by kernel_rfl] at this
      exact this
    have g1 : DataW.trod enc Try.prog w base spare held n 2 [e2] = xs[1]? := by
      have : DataW.trod enc Try.prog w base spare held n 2 (List.take (Try.prog.cellsOf 2) (List.drop 2 [e0, e1, e2, e3, e4, e5])) = xs[1]? := hg 1 _ rfl
      rw [show Try.prog.cellsOf 2 = 1 by kernel_rfl] at this
      exact this
    have g2 : DataW.trod enc Try.prog w base spare held n 24 [e3] = xs[2]? := by
      have : DataW.trod enc Try.prog w base spare held n 24 (List.take (Try.prog.cellsOf 24) (List.drop 3 [e0, e1, e2, e3, e4, e5])) = xs[2]? := hg 2 _ rfl
      rw [show Try.prog.cellsOf 24 = 1 by kernel_rfl] at this
      exact this
    have g3 : DataW.trod enc Try.prog w base spare held n 25 [e4] = xs[3]? := by
      have : DataW.trod enc Try.prog w base spare held n 25 (List.take (Try.prog.cellsOf 25) (List.drop 4 [e0, e1, e2, e3, e4, e5])) = xs[3]? := hg 3 _ rfl
      rw [show Try.prog.cellsOf 25 = 1 by kernel_rfl] at this
      exact this
    have g4 : DataW.trod enc Try.prog w base spare held n 26 [e5] = xs[4]? := by
      have : DataW.trod enc Try.prog w base spare held n 26 (List.take (Try.prog.cellsOf 26) (List.drop 5 [e0, e1, e2, e3, e4, e5])) = xs[4]? := hg 4 _ rfl
      rw [show Try.prog.cellsOf 26 = 1 by kernel_rfl] at this
      exact this
    match xs, hlen' with
    | [y0, y1, y2, y3, y4], _ =>
      replace g0 : DataW.trod enc Try.prog w base spare held n 23 [e0, e1] = some y0 := g0
      replace g1 : DataW.trod enc Try.prog w base spare held n 2 [e2] = some y1 := g1
      replace g2 : DataW.trod enc Try.prog w base spare held n 24 [e3] = some y2 := g2
      replace g3 : DataW.trod enc Try.prog w base spare held n 25 [e4] = some y3 := g3
      replace g4 : DataW.trod enc Try.prog w base spare held n 26 [e5] = some y4 := g4
      obtain ⟨zs, n', _, _, _, hlz, hgz⟩ := DataW.trod_struct Try.underlying23 g0
      have hlz' : zs.length = 2 := hlz
      match zs, hlz' with
      | [z0, z1], _ =>
        have k0 : DataW.trod enc Try.prog w base spare held n' 2 [e0] = some z0 := by
          have : DataW.trod enc Try.prog w base spare held n' 2 (List.take (Try.prog.cellsOf 2) (List.drop 0 [e0, e1])) = [z0, z1][0]? := hgz 0 _ rfl
          rw [show Try.prog.cellsOf 2 = 1 by kernel_rfl] at this
          exact this
        have k1 : DataW.trod enc Try.prog w base spare held n' 2 [e1] = some z1 := by
          have : DataW.trod enc Try.prog w base spare held n' 2 (List.take (Try.prog.cellsOf 2) (List.drop 1 [e0, e1])) = [z0, z1][1]? := hgz 1 _ rfl
          rw [show Try.prog.cellsOf 2 = 1 by kernel_rfl] at this
          exact this
        obtain ⟨mn, rfl, _⟩ := open_i64r Try.underlying2 k0
        obtain ⟨mx, rfl, q1⟩ := open_i64r Try.underlying2 k1
        obtain ⟨sw, rfl, _⟩ := open_i64r Try.underlying2 g1
        obtain ⟨A, ca, ts, rfl, r2, b2, p2⟩ := open_tasks g2
        have hcap := open_cap Try.underlying24 g2
        obtain ⟨B, cb, ls, rfl, r3, b3, _⟩ := open_lines g3
        obtain ⟨D, cd, hs, rfl, r4, b4, p4⟩ := open_threads g4
        have hd' : Rows.uptoBulk (.agg ([y0, y1, y2, y3, y4].map (·.1))) ≤ 1048576 := by rw [← hx.1]; exact hd
        have k2 := agg_le (d := y2.1) (l := [y0, y1, y2, y3, y4].map (·.1)) (by simp)
        have k3 := agg_le (d := y3.1) (l := [y0, y1, y2, y3, y4].map (·.1)) (by simp)
        have k4 := agg_le (d := y4.1) (l := [y0, y1, y2, y3, y4].map (·.1)) (by simp)
        refine ⟨mn, mx, sw, ts, ls, hs, A, ca, B, cb, D, cd, rfl, by omega, by omega, by omega, r2, r3, r4, hcap, q1, fun p hp => ?_⟩
        rcases List.mem_append.1 hp with h | h
        · obtain ⟨t, ht, rfl⟩ := List.mem_map.1 h
          exact p2 t ht
        · obtain ⟨t, ht, rfl⟩ := List.mem_map.1 h
          exact p4 t ht
end Go.Proofs.Ytgampofpabllbaa.top
namespace Go.Proofs.Ytgampofpabllbaa.vetenough
open Go.ChangeShapes Go.WideShapes Go.ChangeAt Go.RowKit Go.Deep
open top

set_option maxRecDepth 100000 in
theorem contract (H : Type) (enc : TypeId × Value → H) (W : World) (base : Nat) (args : Array Value) (ds gs : List (DataW H)) (before : List MemPlace)
    (hval : ∀ (j : Nat) t v, Try.f3.params[j]? = some t → args[j]? = some v → Value.okWide Try.prog W .any base t v)
    (hW : DataW.Whole enc Try.prog Try.f3.params.toList Rows.vetEnoughSpec.vars false W args.toList ds gs before) (hcond : Rows.uptoSmall H (ds ++ gs) = true) :
    Calls Try.prog 3 args W fun e W' => ∃ v, e = .returned v ∧ Rows.vetEnoughSpec.post enc Try.prog Try.f3 false true false false W args v W' := by
  have hW' := hW
  have hbd := bound hcond
  obtain ⟨p, q, hA0, hV, rfl, hfz, hnd⟩ := hW
  have hA : DataW.TrodAll enc Try.prog W 0 (fun _ => true) true Try.f3.params.toList args.toList ds p := hA0
  rw [Try.params3] at hA hval
  obtain ⟨v0, vs0, d0, ds0, p0, q0, hargs, rfl, rfl, h0, r0⟩ := trodAll_cons hA
  obtain ⟨rfl, rfl, rfl⟩ := trodAll_nil r0
  obtain rfl : args = #[v0] := by cases args; simp_all
  have b0 := Nat.le_trans (part_le (d := d0) (l := [d0] ++ gs) (by simp)) hbd
  obtain ⟨mn, mx, sw, ts, ls, hs, A, ca, B, cb, D, cd, rfl, n1, n2, n3, r5, r6, r7, hca, hmx, hpr⟩ := open_config2 (hval 0 28 v0 rfl rfl) h0 b0
  refine (enough27_cfg mn mx sw ts ls hs A ca B cb D cd W n1 n2 n3 hca r5 r6 r7 hmx hpr).mono fun e W' ⟨he, hb⟩ => ?_
  subst he
  refine ⟨_, rfl, law_post laidOut Try.underlying4 rfl (by kernel_rfl) rfl rfl rfl hW' ?_ hb⟩
  have hall : Try.f3.params.toList.all (fun t => Try.prog.readableRec t && decide (t < Try.prog.types.size)) = true := by kernel_rfl
  intro t ht
  simpa using List.all_eq_true.1 hall t ht

theorem own : ownKnob Try.prog.godebug = none := by kernel_rfl
set_option maxRecDepth 100000 in
theorem lifted (os : Os) (started : os.Started) (H : Type) (enc : TypeId × Value → H) (F : Stop.Interp) :
    ReturnsInHanded {} Try.checked os 3 .any ((Rows.OpenSpec.upto Rows.vetEnoughSpec).pre6 enc Try.prog Try.f3 Rows.vetEnoughUptoRow.domain false) (((Rows.OpenSpec.upto Rows.vetEnoughSpec).at F).post enc Try.prog Try.f3 false true false false) := by
  refine returnsInHanded_of_cond (C := Try.checked) (s := Rows.OpenSpec.upto Rows.vetEnoughSpec) (k := Rows.uptoSmall) rfl own started (by kernel_rfl) Try.func3
    (OpenSpec.witness (enc := enc) (C := Try.checked) (s := Rows.OpenSpec.upto Rows.vetEnoughSpec) (k := Rows.uptoSmall) rfl false ⟨#[], #[.agg #[.int .i64 0, .int .i64 0, .int .i64 0, .slice none 0 0, .slice none 0 0, .slice none 0 0]], []⟩ 8 (by kernel_rfl) (by kernel_rfl) (by kernel_rfl)
      (x := ([.agg [.agg [.lit (.int .i64 0), .lit (.int .i64 0)], .lit (.int .i64 0), .nil, .nil, .nil]], [], [])) (by kernel_rfl) rfl (by kernel_rfl)) ?_
  intro W base args ds gs before hval hW _ hk _
  exact contract H enc W base args ds gs before hval hW hk
/-- THE STATEMENT -/
theorem uptoSaid : Rows.VetEnoughUptoSaid :=
  OpenClaim.holds_of_cond 3 Try.f3 rfl rfl rfl rfl rfl rfl rfl ⟨rfl, rfl, rfl, rfl, rfl⟩ rfl rfl rfl rfl rfl (by kernel_rfl) Try.func3 (by kernel_rfl)
    (of_decide_eq_true (by kernel_rfl)) (by unfold Func.isWrapper; first | (rw [if_pos (by decide +kernel)]; kernel_rfl) | (rw [if_neg (by decide +kernel)]; exact ⟨rfl, rfl⟩))
    (fun os started H enc _ F => lifted os started H enc F)
end Go.Proofs.Ytgampofpabllbaa.vetenough

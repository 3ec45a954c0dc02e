/- RtaMore: of all arguments of bulk at most 1048576, and whatever memory, RtaMore answers true. Conditions: the reading's bulk. -/
import Derived.Test.YtpdanmdpaanafaaTopCfP
import Derived.Test.YtpdanmdpaanafaaRtMb
namespace Go.Proofs.Ytpdanmdpaanafaa.more
open Go.ChangeShapes Go.WideShapes Go.ChangeAt Go.RowKit Go.Deep
open top

set_option maxRecDepth 100000 in
theorem contract (H : Type) (enc : TypeId × Value → H) (W : World) (base : Nat) (args : Array Value) (ds gs : List (DataW H)) (before : List MemPlace)
    (hval : ∀ (j : Nat) t v, Try.f7.params[j]? = some t → args[j]? = some v → Value.okWide Try.prog W .any base t v)
    (hW : DataW.Whole enc Try.prog Try.f7.params.toList Rows.rtaMoreSpec.vars false W args.toList ds gs before) (hcond : Rows.uptoSmall H (ds ++ gs) = true) :
    Calls Try.prog 7 args W fun e W' => ∃ v, e = .returned v ∧ Rows.rtaMoreSpec.post enc Try.prog Try.f7 false true false false W args v W' := by
  have hW' := hW
  have hbd := bound hcond
  obtain ⟨p, q, hA0, hV, rfl, hfz, hnd⟩ := hW
  have hA : DataW.TrodAll enc Try.prog W 0 (fun _ => true) true Try.f7.params.toList args.toList ds p := hA0
  rw [Try.params7] at hA hval
  obtain ⟨v0, vs0, d0, ds0, p0, q0, hargs, rfl, rfl, h0, z0⟩ := trodAll_cons hA
  obtain ⟨v1, vs1, d1, ds1, p1, q1, rfl, rfl, rfl, h1, z1⟩ := trodAll_cons z0
  obtain ⟨v2, vs2, d2, ds2, p2, q2, rfl, rfl, rfl, h2, z2⟩ := trodAll_cons z1
  obtain ⟨v3, vs3, d3, ds3, p3, q3, rfl, rfl, rfl, h3, z3⟩ := trodAll_cons z2
  obtain ⟨v4, vs4, d4, ds4, p4, q4, rfl, rfl, rfl, h4, z4⟩ := trodAll_cons z3
  obtain ⟨v5, vs5, d5, ds5, p5, q5, rfl, rfl, rfl, h5, z5⟩ := trodAll_cons z4
  obtain ⟨v6, vs6, d6, ds6, p6, q6, rfl, rfl, rfl, h6, z6⟩ := trodAll_cons z5
  obtain ⟨rfl, rfl, rfl⟩ := trodAll_nil z6
  obtain rfl : args = #[v0, v1, v2, v3, v4, v5, v6] := by cases args; simp_all
  have b0 := Nat.le_trans (part_le (d := d0) (l := [d0, d1, d2, d3, d4, d5, d6] ++ gs) (by simp)) hbd
  obtain ⟨mn, mx, sw, ts, ls, hs, A, ca, B, cb, D, cd, rfl, n1, n2, n3, r5, r6, r7, hmx, hpr⟩ := open_config (hval 0 28 v0 rfl rfl) h0 b0
  obtain ⟨n, rfl⟩ := open_top_k Try.underlying3 (hval 1 3 v1 rfl rfl) h1
  obtain ⟨o, rfl⟩ := open_top_k Try.underlying3 (hval 2 3 v2 rfl rfl) h2
  obtain ⟨a1, rfl⟩ := open_top_k Try.underlying2 (hval 3 2 v3 rfl rfl) h3
  obtain ⟨a2, rfl⟩ := open_top_k Try.underlying2 (hval 4 2 v4 rfl rfl) h4
  obtain ⟨a3, rfl⟩ := open_top_k Try.underlying2 (hval 5 2 v5 rfl rfl) h5
  obtain ⟨a4, rfl⟩ := open_top_k Try.underlying2 (hval 6 2 v6 rfl rfl) h6
  refine (more28_cfg mn mx sw ts ls hs A ca B cb D cd n o a1 a2 a3 a4 W n1 n2 n3 r5 r6 r7 hmx hpr).mono fun e W' ⟨he, hb⟩ => ?_
  subst he
  refine ⟨_, rfl, law_post laidOut Try.underlying4 rfl (by kernel_rfl) rfl rfl rfl hW' ?_ hb⟩
  have hall : Try.f7.params.toList.all (fun t => Try.prog.readableRec t && decide (t < Try.prog.types.size)) = true := by kernel_rfl
  intro t ht
  simpa using List.all_eq_true.1 hall t ht

theorem own : ownKnob Try.prog.godebug = none := by kernel_rfl
set_option maxRecDepth 100000 in
theorem lifted (os : Os) (started : os.Started) (H : Type) (enc : TypeId × Value → H) (F : Stop.Interp) :
    ReturnsInHanded {} Try.checked os 7 .any ((Rows.OpenSpec.upto Rows.rtaMoreSpec).pre6 enc Try.prog Try.f7 Rows.rtaMoreUptoRow.domain false) (((Rows.OpenSpec.upto Rows.rtaMoreSpec).at F).post enc Try.prog Try.f7 false true false false) := by
  refine returnsInHanded_of_cond (C := Try.checked) (s := Rows.OpenSpec.upto Rows.rtaMoreSpec) (k := Rows.uptoSmall) rfl own started (by kernel_rfl) Try.func7
    (OpenSpec.witness (enc := enc) (C := Try.checked) (s := Rows.OpenSpec.upto Rows.rtaMoreSpec) (k := Rows.uptoSmall) rfl false ⟨#[], #[.agg #[.int .i64 0, .int .i64 0, .int .i64 0, .slice none 0 0, .slice none 0 0, .slice none 0 0], .int .i64 0, .int .i64 0, .int .i64 0, .int .i64 0, .int .i64 0, .int .i64 0], []⟩ 13 (by kernel_rfl) (by kernel_rfl) (by kernel_rfl)
      (x := ([.agg [.agg [.lit (.int .i64 0), .lit (.int .i64 0)], .lit (.int .i64 0), .nil, .nil, .nil], .lit (.int .i64 0), .lit (.int .i64 0), .lit (.int .i64 0), .lit (.int .i64 0), .lit (.int .i64 0), .lit (.int .i64 0)], [], [])) (by kernel_rfl) rfl (by kernel_rfl)) ?_
  intro W base args ds gs before hval hW _ hk _
  exact contract H enc W base args ds gs before hval hW hk
/-- THE STATEMENT -/
theorem uptoSaid : Rows.RtaMoreUptoSaid :=
  OpenClaim.holds_of_cond 7 Try.f7 rfl rfl rfl rfl rfl rfl rfl ⟨rfl, rfl, rfl, rfl, rfl⟩ rfl rfl rfl rfl rfl (by kernel_rfl) Try.func7 (by kernel_rfl)
    (of_decide_eq_true (by kernel_rfl)) (by unfold Func.isWrapper; first | (rw [if_pos (by decide +kernel)]; kernel_rfl) | (rw [if_neg (by decide +kernel)]; exact ⟨rfl, rfl⟩))
    (fun os started H enc _ F => lifted os started H enc F)
end Go.Proofs.Ytpdanmdpaanafaa.more

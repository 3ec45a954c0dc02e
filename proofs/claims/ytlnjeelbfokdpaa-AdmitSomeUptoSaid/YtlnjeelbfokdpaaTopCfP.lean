/- Cards of this seat: a configuration that was handed in. Conditions: the reading's bulk. -/
import Derived.Test.YtlnjeelbfokdpaaTopEP
import Derived.Test.YtlnjeelbfokdpaaVetH
namespace Go.Proofs.Ytlnjeelbfokdpaa.top
open Go.ChangeShapes Go.WideShapes Go.ChangeAt Go.RowKit Go.Deep

theorem rows_with {α β : Type} {f : α → β} {Q : α → Prop} : ∀ (rows : List β), (∀ r ∈ rows, ∃ x, r = f x ∧ Q x) → ∃ xs : List α, rows = xs.map f ∧ ∀ x ∈ xs, Q x
  | [], _ => ⟨[], rfl, fun _ h => by cases h⟩
  | r :: rows, h => by
    obtain ⟨x, rfl, hq⟩ := h r (by simp)
    obtain ⟨xs, rfl, hqs⟩ := rows_with rows (fun r' h' => h r' (by simp [h']))
    refine ⟨x :: xs, rfl, fun y hy => ?_⟩
    rcases List.mem_cons.1 hy with rfl | hy
    · exact hq
    · exact hqs y hy
section
variable {H : Type} {enc : TypeId × Value → H} {P : Program} {w : World} {base : Nat} {spare : Nat → Bool} {held : Bool}
theorem open_i64r {t : TypeId} (ht : P.underlying t = some (.int .i64)) {n : Nat} {u : Value} {y : DataW H × List MemPlace}
    (h : DataW.trod enc P w base spare held n t [u] = some y) : ∃ m : Int, u = .int .i64 m ∧ I64 m := by
  obtain ⟨z, h1, _, hw⟩ := DataW.trod_int ht h
  injection h1 with h1
  simp [Lit.wf] at hw
  rw [show IntKind.i64.min = -9223372036854775808 by kernel_rfl] at hw
  exact ⟨z, h1, hw.1, hw.2⟩
theorem open_any {t : TypeId} {k : IntKind} (ht : P.underlying t = some (.int k)) {n : Nat} {u : Value} {y : DataW H × List MemPlace}
    (h : DataW.trod enc P w base spare held n t [u] = some y) : ∃ m : Int, u = .int k m := by
  obtain ⟨z, h1, _, _⟩ := DataW.trod_int ht h
  injection h1 with h1
  exact ⟨z, h1⟩
end
section
variable {H : Type} {enc : TypeId × Value → H} {w : World} {base : Nat} {spare : Nat → Bool} {held : Bool} {n : Nat} {u : Value} {y : DataW H × List MemPlace}
theorem open_tasks (h : DataW.trod enc Try.prog w base spare held n 25 [u] = some y) :
    ∃ (A : Option Addr) (cap : Nat) (ts : List Tk), u = .slice A ts.length cap ∧ Rd w A (ts.flatMap tkc) ∧ ts.length + 1 ≤ Rows.uptoBulk y.1 ∧ ∀ t ∈ ts, I64 t.prio := by
  obtain ⟨A, cap, rows, rfl, hr, hb, hrow⟩ := open_rows Try.underlying25 Try.underlying43 (by kernel_rfl) (by kernel_rfl) (by decide) h
  obtain ⟨ts, rfl, hq⟩ := rows_with (f := tkc) (Q := fun t => I64 t.prio) rows (fun r hr' => by
    obtain ⟨hl, n', hf⟩ := hrow r hr'
    obtain ⟨v0, _, c0, g0, _⟩ := hf 0 _ rfl
    obtain ⟨v1, _, c1, g1, _⟩ := hf 1 _ rfl
    obtain ⟨v2, _, c2, g2, _⟩ := hf 2 _ rfl
    obtain ⟨v3, _, c3, g3, _⟩ := hf 3 _ rfl
    obtain ⟨v4, _, c4, g4, _⟩ := hf 4 _ rfl
    obtain ⟨v5, _, c5, g5, _⟩ := hf 5 _ rfl
    obtain ⟨v6, _, c6, g6, _⟩ := hf 6 _ rfl
    obtain ⟨v7, _, c7, g7, _⟩ := hf 7 _ rfl
    obtain ⟨v8, _, c8, g8, _⟩ := hf 8 _ rfl
    obtain ⟨v9, _, c9, g9, _⟩ := hf 9 _ rfl
    obtain ⟨a0, rfl⟩ := open_any Try.underlying41 g0
    obtain ⟨a1, rfl, q1⟩ := open_i64r Try.underlying3 g1
    obtain ⟨a2, rfl⟩ := open_any Try.underlying2 g2
    obtain ⟨a3, rfl⟩ := open_any Try.underlying2 g3
    obtain ⟨a4, rfl⟩ := open_any Try.underlying2 g4
    obtain ⟨a5, rfl⟩ := open_any Try.underlying2 g5
    obtain ⟨a6, rfl⟩ := open_any Try.underlying3 g6
    obtain ⟨a7, rfl⟩ := open_any Try.underlying3 g7
    obtain ⟨a8, rfl⟩ := open_any Try.underlying2 g8
    obtain ⟨a9, rfl⟩ := open_any Try.underlying2 g9
    have hl' : r.length = 10 := hl
    refine ⟨⟨a0, a1, a2, a3, a4, a5, a6, a7, a8, a9⟩, ?_, q1⟩
    match r, hl', c0, c1, c2, c3, c4, c5, c6, c7, c8, c9 with
    | [_, _, _, _, _, _, _, _, _, _], _, c0, c1, c2, c3, c4, c5, c6, c7, c8, c9 =>
      simp at c0 c1 c2 c3 c4 c5 c6 c7 c8 c9
      subst c0 c1 c2 c3 c4 c5 c6 c7 c8 c9
      rfl)
  refine ⟨A, cap, ts, by rw [List.length_map], ?_, by simpa using hb, hq⟩
  rw [List.flatMap_def]
  exact hr
theorem open_lines (h : DataW.trod enc Try.prog w base spare held n 26 [u] = some y) :
    ∃ (A : Option Addr) (cap : Nat) (ts : List Ln), u = .slice A ts.length cap ∧ Rd w A (ts.flatMap lnc) ∧ ts.length + 1 ≤ Rows.uptoBulk y.1 ∧ ∀ t ∈ ts, I64 t.prio := by
  obtain ⟨A, cap, rows, rfl, hr, hb, hrow⟩ := open_rows Try.underlying26 Try.underlying49 (by kernel_rfl) (by kernel_rfl) (by decide) h
  obtain ⟨ts, rfl, hq⟩ := rows_with (f := lnc) (Q := fun t => I64 t.prio) rows (fun r hr' => by
    obtain ⟨hl, n', hf⟩ := hrow r hr'
    obtain ⟨v0, _, c0, g0, _⟩ := hf 0 _ rfl
    obtain ⟨v1, _, c1, g1, _⟩ := hf 1 _ rfl
    obtain ⟨v2, _, c2, g2, _⟩ := hf 2 _ rfl
    obtain ⟨v3, _, c3, g3, _⟩ := hf 3 _ rfl
    obtain ⟨a0, rfl, q0⟩ := open_i64r Try.underlying3 g0
    obtain ⟨a1, rfl⟩ := open_any Try.underlying2 g1
    obtain ⟨a2, rfl⟩ := open_any Try.underlying3 g2
    obtain ⟨a3, rfl⟩ := open_any Try.underlying2 g3
    have hl' : r.length = 4 := hl
    refine ⟨⟨a0, a1, a2, a3⟩, ?_, q0⟩
    match r, hl', c0, c1, c2, c3 with
    | [_, _, _, _], _, c0, c1, c2, c3 =>
      simp at c0 c1 c2 c3
      subst c0 c1 c2 c3
      rfl)
  refine ⟨A, cap, ts, by rw [List.length_map], ?_, by simpa using hb, hq⟩
  rw [List.flatMap_def]
  exact hr
theorem open_threads (h : DataW.trod enc Try.prog w base spare held n 27 [u] = some y) :
    ∃ (A : Option Addr) (cap : Nat) (ts : List Th), u = .slice A ts.length cap ∧ Rd w A (ts.flatMap thc) ∧ ts.length + 1 ≤ Rows.uptoBulk y.1 ∧ ∀ t ∈ ts, I64 t.prio := by
  obtain ⟨A, cap, rows, rfl, hr, hb, hrow⟩ := open_rows Try.underlying27 Try.underlying51 (by kernel_rfl) (by kernel_rfl) (by decide) h
  obtain ⟨ts, rfl, hq⟩ := rows_with (f := thc) (Q := fun t => I64 t.prio) rows (fun r hr' => by
    obtain ⟨hl, n', hf⟩ := hrow r hr'
    obtain ⟨v0, _, c0, g0, _⟩ := hf 0 _ rfl
    obtain ⟨v1, _, c1, g1, _⟩ := hf 1 _ rfl
    obtain ⟨v2, _, c2, g2, _⟩ := hf 2 _ rfl
    obtain ⟨v3, _, c3, g3, _⟩ := hf 3 _ rfl
    obtain ⟨a0, rfl, q0⟩ := open_i64r Try.underlying3 g0
    obtain ⟨a1, rfl⟩ := open_any Try.underlying2 g1
    obtain ⟨a2, rfl⟩ := open_any Try.underlying2 g2
    obtain ⟨a3, rfl⟩ := open_any Try.underlying3 g3
    have hl' : r.length = 4 := hl
    refine ⟨⟨a0, a1, a2, a3⟩, ?_, q0⟩
    match r, hl', c0, c1, c2, c3 with
    | [_, _, _, _], _, c0, c1, c2, c3 =>
      simp at c0 c1 c2 c3
      subst c0 c1 c2 c3
      rfl)
  refine ⟨A, cap, ts, by rw [List.length_map], ?_, by simpa using hb, hq⟩
  rw [List.flatMap_def]
  exact hr
end
set_option maxRecDepth 100000 in
/-- A configuration that was handed in. -/
theorem open_config {H : Type} {enc : TypeId × Value → H} {r : Reach} {b0 : Nat} {w : World} {base : Nat} {spare : Nat → Bool} {held : Bool} {v : Value} {d : DataW H} {p : List MemPlace}
    (hv : Value.okWide Try.prog w r b0 29 v) (h : DataW.Trod enc Try.prog w base spare held 29 v d p) (hd : Rows.uptoBulk d ≤ 1048576) :
    ∃ (mn mx sw : Int) (ts : List Tk) (ls : List Ln) (hs : List Th) (A : Option Addr) (ca : Nat) (B : Option Addr) (cb : Nat) (D : Option Addr) (cd : Nat),
      v = cfv mn mx sw A ts.length ca B ls.length cb D hs.length cd ∧ ts.length ≤ 1048576 ∧ ls.length ≤ 1048576 ∧ hs.length ≤ 1048576 ∧
      Rd w A (ts.flatMap tkc) ∧ Rd w B (ls.flatMap lnc) ∧ Rd w D (hs.flatMap thc) ∧ I64 mx ∧ ∀ p ∈ ts.map (·.prio) ++ hs.map (·.prio), I64 p := by
  obtain ⟨cs, rfl, hsz⟩ := okWide_struct Try.underlying29 hv
  obtain ⟨l⟩ := cs
  have hl : l.length = 6 := by
    have e : Try.prog.cellsOf 29 = 6 := by kernel_rfl
    rw [← e]; exact hsz
  obtain ⟨fuel, hf⟩ := h
  obtain ⟨xs, n, _, hx, _, hlen, hg⟩ := DataW.trod_struct Try.underlying29 hf
  simp only [Prod.mk.injEq] at hx
  have hlen' : xs.length = 5 := hlen
  match l, hl with
  | [e0, e1, e2, e3, e4, e5], _ =>
    have g0 : DataW.trod enc Try.prog w base spare held n 24 [e0, e1] = xs[0]? := by
      have : DataW.trod enc Try.prog w base spare held n 24 (List.take (Try.prog.cellsOf 24) (List.drop 0 [e0, e1, e2, e3, e4, e5])) = xs[0]? := hg 0 _ rfl
      rw [show Try.prog.cellsOf 24 = 2 by kernel_rfl] at this
      exact this
    have g1 : DataW.trod enc Try.prog w base spare held n 2 [e2] = xs[1]? := by
      have : DataW.trod enc Try.prog w base spare held n 2 (List.take (Try.prog.cellsOf 2) (List.drop 2 [e0, e1, e2, e3, e4, e5])) = xs[1]? := hg 1 _ rfl
      rw [show Try.prog.cellsOf 2 = 1 by kernel_rfl] at this
      exact this
    have g2 : DataW.trod enc Try.prog w base spare held n 25 [e3] = xs[2]? := by
      have : DataW.trod enc Try.prog w base spare held n 25 (List.take (Try.prog.cellsOf 25) (List.drop 3 [e0, e1, e2, e3, e4, e5])) = xs[2]? := hg 2 _ rfl
      rw [show Try.prog.cellsOf 25 = 1 by kernel_rfl] at this
      exact this
    have g3 : DataW.trod enc Try.prog w base spare held n 26 [e4] = xs[3]? := by
      have : DataW.trod enc Try.prog w base spare held n 26 (List.take (Try.prog.cellsOf 26) (List.drop 4 [e0, e1, e2, e3, e4, e5])) = xs[3]? := hg 3 _ rfl
      rw [show Try.prog.cellsOf 26 = 1 by kernel_rfl] at this
      exact this
    have g4 : DataW.trod enc Try.prog w base spare held n 27 [e5] = xs[4]? := by
      have : DataW.trod enc Try.prog w base spare held n 27 (List.take (Try.prog.cellsOf 27) (List.drop 5 [e0, e1, e2, e3, e4, e5])) = xs[4]? := hg 4 _ rfl
      rw [show Try.prog.cellsOf 27 = 1 by kernel_rfl] at this
      exact this
    match xs, hlen' with
    | [y0, y1, y2, y3, y4], _ =>
      replace g0 : DataW.trod enc Try.prog w base spare held n 24 [e0, e1] = some y0 := g0
      replace g1 : DataW.trod enc Try.prog w base spare held n 2 [e2] = some y1 := g1
      replace g2 : DataW.trod enc Try.prog w base spare held n 25 [e3] = some y2 := g2
      replace g3 : DataW.trod enc Try.prog w base spare held n 26 [e4] = some y3 := g3
      replace g4 : DataW.trod enc Try.prog w base spare held n 27 [e5] = some y4 := g4
      obtain ⟨zs, n', _, _, _, hlz, hgz⟩ := DataW.trod_struct Try.underlying24 g0
      have hlz' : zs.length = 2 := hlz
      match zs, hlz' with
      | [z0, z1], _ =>
        have k0 : DataW.trod enc Try.prog w base spare held n' 2 [e0] = some z0 := by
          have : DataW.trod enc Try.prog w base spare held n' 2 (List.take (Try.prog.cellsOf 2) (List.drop 0 [e0, e1])) = [z0, z1][0]? := hgz 0 _ rfl
          rw [show Try.prog.cellsOf 2 = 1 by kernel_rfl] at this
          exact this
        have k1 : DataW.trod enc Try.prog w base spare held n' 2 [e1] = some z1 := by
          have : DataW.trod enc Try.prog w base spare held n' 2 (List.take (Try.prog.cellsOf 2) (List.drop 1 [e0, e1])) = [z0, z1][1]? := hgz 1 _ rfl
          rw [show Try.prog.cellsOf 2 = 1 by kernel_rfl] at this
          exact this
        obtain ⟨mn, rfl, _⟩ := open_i64r Try.underlying2 k0
        obtain ⟨mx, rfl, q1⟩ := open_i64r Try.underlying2 k1
        obtain ⟨sw, rfl, _⟩ := open_i64r Try.underlying2 g1
        obtain ⟨A, ca, ts, rfl, r2, b2, p2⟩ := open_tasks g2
        obtain ⟨B, cb, ls, rfl, r3, b3, _⟩ := open_lines g3
        obtain ⟨D, cd, hs, rfl, r4, b4, p4⟩ := open_threads g4
        have hd' : Rows.uptoBulk (.agg ([y0, y1, y2, y3, y4].map (·.1))) ≤ 1048576 := by rw [← hx.1]; exact hd
        have k2 := agg_le (d := y2.1) (l := [y0, y1, y2, y3, y4].map (·.1)) (by simp)
        have k3 := agg_le (d := y3.1) (l := [y0, y1, y2, y3, y4].map (·.1)) (by simp)
        have k4 := agg_le (d := y4.1) (l := [y0, y1, y2, y3, y4].map (·.1)) (by simp)
        refine ⟨mn, mx, sw, ts, ls, hs, A, ca, B, cb, D, cd, rfl, by omega, by omega, by omega, r2, r3, r4, q1, fun p hp => ?_⟩
        rcases List.mem_append.1 hp with h | h
        · obtain ⟨t, ht, rfl⟩ := List.mem_map.1 h
          exact p2 t ht
        · obtain ⟨t, ht, rfl⟩ := List.mem_map.1 h
          exact p4 t ht
end Go.Proofs.Ytlnjeelbfokdpaa.top

/- Package vet: the walk of task. Conditions: none (a task's numbers are as they read). -/
import Derived.Test.YtgampofpabllbaaVetA0
namespace Go.Proofs.Ytgampofpabllbaa
open Go.RowKit

set_option maxHeartbeats 8000000 in
theorem task_any (t : Tk) (ch : Int) (w : World) : Calls Try.prog 34 #[tkv t, .int .i64 ch] w fun e w' => e = .returned (.int .i64 (tkWhy t ch)) ∧ Below w.heap.size w w' := by
  obtain ⟨kind, prio, period, offset, deadline, cost, room, lock, lo, hi⟩ := t
  have q1 := Lib.hid (fun w => within_any prio 0 63 w)
  have q2 := Lib.hid (fun w => within_any room 1 16 w)
  have q3 := Lib.hid (fun w => within_any period 1 1099511627776 w)
  have q4 := Lib.hid (fun w => within_any offset 0 1099511627776 w)
  have q5 := Lib.hid (fun w => within_any deadline 1 1099511627776 w)
  have q6 := Lib.hid (fun w => within_any cost 1 deadline w)
  have i5 := Lib.hid (inB_true (n := deadline) (lo := 1) (hi := 1099511627776))
  have i6 := Lib.hid (inB_true (n := cost) (lo := 1) (hi := deadline))
  generalize e1 : inB prio 0 63 = b1 at *
  generalize e2 : inB room 1 16 = b2 at *
  generalize e3 : inB period 1 1099511627776 = b3 at *
  generalize e4 : inB offset 0 1099511627776 = b4 at *
  generalize e5 : inB deadline 1 1099511627776 = b5 at *
  generalize e6 : inB cost 1 deadline = b6 at *
  by_cases hk : kind ≠ 1 ∧ kind ≠ 2
  · obtain ⟨k1, k2⟩ := hk
    have k1' : (kind != 1) = true := by simpa using k1
    have k2' : (kind != 2) = true := by simpa using k2
    have HR : Hid (tkWhy ⟨kind, prio, period, offset, deadline, cost, room, lock, lo, hi⟩ ch = 2) := by
      show _ = _
      unfold tkWhy
      simp only [e1, e2, e3, e4, e5, e6]
      simp <;> omega
    unfold tkv
    clear e1 e2 e3 e4 e5 e6
    go_enter Try.func34, Try.ntmps34
    go_wp2_with (go_at_call 40; (first | ((with_reducible refine (q1.out _).mono ?_)) | ((with_reducible refine (q2.out _).mono ?_)) | ((with_reducible refine (q3.out _).mono ?_)) | ((with_reducible refine (q4.out _).mono ?_)) | ((with_reducible refine (q5.out _).mono ?_)) | ((with_reducible refine (q6.out _).mono ?_))); rintro e w' ⟨rfl, rfl⟩)
    all_goals
      go_ret
      exact ⟨ret_int HR.out.symm, (Below.refl _ _).alloc (Nat.le_refl _) _⟩
  · have hk' : kind = 1 ∨ kind = 2 := by omega
    clear hk
    cases b1 with
    | false =>
      rcases hk' with rfl | rfl
      · have HR : Hid (tkWhy ⟨1, prio, period, offset, deadline, cost, room, lock, lo, hi⟩ ch = 1) := by
          show _ = _
          unfold tkWhy
          simp only [e1, e2, e3, e4, e5, e6]
          simp <;> omega
        unfold tkv
        clear e1 e2 e3 e4 e5 e6
        go_enter Try.func34, Try.ntmps34
        go_wp2_with (go_at_call 40; (first | ((with_reducible refine (q1.out _).mono ?_)) | ((with_reducible refine (q2.out _).mono ?_)) | ((with_reducible refine (q3.out _).mono ?_)) | ((with_reducible refine (q4.out _).mono ?_)) | ((with_reducible refine (q5.out _).mono ?_)) | ((with_reducible refine (q6.out _).mono ?_))); rintro e w' ⟨rfl, rfl⟩)
        all_goals
          go_ret
          exact ⟨ret_int HR.out.symm, (Below.refl _ _).alloc (Nat.le_refl _) _⟩
      · have HR : Hid (tkWhy ⟨2, prio, period, offset, deadline, cost, room, lock, lo, hi⟩ ch = 1) := by
          show _ = _
          unfold tkWhy
          simp only [e1, e2, e3, e4, e5, e6]
          simp <;> omega
        unfold tkv
        clear e1 e2 e3 e4 e5 e6
        go_enter Try.func34, Try.ntmps34
        go_wp2_with (go_at_call 40; (first | ((with_reducible refine (q1.out _).mono ?_)) | ((with_reducible refine (q2.out _).mono ?_)) | ((with_reducible refine (q3.out _).mono ?_)) | ((with_reducible refine (q4.out _).mono ?_)) | ((with_reducible refine (q5.out _).mono ?_)) | ((with_reducible refine (q6.out _).mono ?_))); rintro e w' ⟨rfl, rfl⟩)
        all_goals
          go_ret
          exact ⟨ret_int HR.out.symm, (Below.refl _ _).alloc (Nat.le_refl _) _⟩
    | true =>
      cases b2 with
      | false =>
        rcases hk' with rfl | rfl
        · have HR : Hid (tkWhy ⟨1, prio, period, offset, deadline, cost, room, lock, lo, hi⟩ ch = 1) := by
            show _ = _
            unfold tkWhy
            simp only [e1, e2, e3, e4, e5, e6]
            simp <;> omega
          unfold tkv
          clear e1 e2 e3 e4 e5 e6
          go_enter Try.func34, Try.ntmps34
          go_wp2_with (go_at_call 40; (first | ((with_reducible refine (q1.out _).mono ?_)) | ((with_reducible refine (q2.out _).mono ?_)) | ((with_reducible refine (q3.out _).mono ?_)) | ((with_reducible refine (q4.out _).mono ?_)) | ((with_reducible refine (q5.out _).mono ?_)) | ((with_reducible refine (q6.out _).mono ?_))); rintro e w' ⟨rfl, rfl⟩)
          all_goals
            go_ret
            exact ⟨ret_int HR.out.symm, (Below.refl _ _).alloc (Nat.le_refl _) _⟩
        · have HR : Hid (tkWhy ⟨2, prio, period, offset, deadline, cost, room, lock, lo, hi⟩ ch = 1) := by
            show _ = _
            unfold tkWhy
            simp only [e1, e2, e3, e4, e5, e6]
            simp <;> omega
          unfold tkv
          clear e1 e2 e3 e4 e5 e6
          go_enter Try.func34, Try.ntmps34
          go_wp2_with (go_at_call 40; (first | ((with_reducible refine (q1.out _).mono ?_)) | ((with_reducible refine (q2.out _).mono ?_)) | ((with_reducible refine (q3.out _).mono ?_)) | ((with_reducible refine (q4.out _).mono ?_)) | ((with_reducible refine (q5.out _).mono ?_)) | ((with_reducible refine (q6.out _).mono ?_))); rintro e w' ⟨rfl, rfl⟩)
          all_goals
            go_ret
            exact ⟨ret_int HR.out.symm, (Below.refl _ _).alloc (Nat.le_refl _) _⟩
      | true =>
        by_cases hL : 16 ≤ lock
        · rcases hk' with rfl | rfl
          · have HR : Hid (tkWhy ⟨1, prio, period, offset, deadline, cost, room, lock, lo, hi⟩ ch = 1) := by
              show _ = _
              unfold tkWhy
              simp only [e1, e2, e3, e4, e5, e6]
              simp <;> omega
            unfold tkv
            clear e1 e2 e3 e4 e5 e6
            go_enter Try.func34, Try.ntmps34
            go_wp2_with (go_at_call 40; (first | ((with_reducible refine (q1.out _).mono ?_)) | ((with_reducible refine (q2.out _).mono ?_)) | ((with_reducible refine (q3.out _).mono ?_)) | ((with_reducible refine (q4.out _).mono ?_)) | ((with_reducible refine (q5.out _).mono ?_)) | ((with_reducible refine (q6.out _).mono ?_))); rintro e w' ⟨rfl, rfl⟩)
            all_goals
              go_ret
              exact ⟨ret_int HR.out.symm, (Below.refl _ _).alloc (Nat.le_refl _) _⟩
          · have HR : Hid (tkWhy ⟨2, prio, period, offset, deadline, cost, room, lock, lo, hi⟩ ch = 1) := by
              show _ = _
              unfold tkWhy
              simp only [e1, e2, e3, e4, e5, e6]
              simp <;> omega
            unfold tkv
            clear e1 e2 e3 e4 e5 e6
            go_enter Try.func34, Try.ntmps34
            go_wp2_with (go_at_call 40; (first | ((with_reducible refine (q1.out _).mono ?_)) | ((with_reducible refine (q2.out _).mono ?_)) | ((with_reducible refine (q3.out _).mono ?_)) | ((with_reducible refine (q4.out _).mono ?_)) | ((with_reducible refine (q5.out _).mono ?_)) | ((with_reducible refine (q6.out _).mono ?_))); rintro e w' ⟨rfl, rfl⟩)
            all_goals
              go_ret
              exact ⟨ret_int HR.out.symm, (Below.refl _ _).alloc (Nat.le_refl _) _⟩
        · cases b3 with
          | false =>
            rcases hk' with rfl | rfl
            · have HR : Hid (tkWhy ⟨1, prio, period, offset, deadline, cost, room, lock, lo, hi⟩ ch = 1) := by
                show _ = _
                unfold tkWhy
                simp only [e1, e2, e3, e4, e5, e6]
                simp <;> omega
              unfold tkv
              clear e1 e2 e3 e4 e5 e6
              go_enter Try.func34, Try.ntmps34
              go_wp2_with (go_at_call 40; (first | ((with_reducible refine (q1.out _).mono ?_)) | ((with_reducible refine (q2.out _).mono ?_)) | ((with_reducible refine (q3.out _).mono ?_)) | ((with_reducible refine (q4.out _).mono ?_)) | ((with_reducible refine (q5.out _).mono ?_)) | ((with_reducible refine (q6.out _).mono ?_))); rintro e w' ⟨rfl, rfl⟩)
              all_goals
                go_ret
                exact ⟨ret_int HR.out.symm, (Below.refl _ _).alloc (Nat.le_refl _) _⟩
            · have HR : Hid (tkWhy ⟨2, prio, period, offset, deadline, cost, room, lock, lo, hi⟩ ch = 1) := by
                show _ = _
                unfold tkWhy
                simp only [e1, e2, e3, e4, e5, e6]
                simp <;> omega
              unfold tkv
              clear e1 e2 e3 e4 e5 e6
              go_enter Try.func34, Try.ntmps34
              go_wp2_with (go_at_call 40; (first | ((with_reducible refine (q1.out _).mono ?_)) | ((with_reducible refine (q2.out _).mono ?_)) | ((with_reducible refine (q3.out _).mono ?_)) | ((with_reducible refine (q4.out _).mono ?_)) | ((with_reducible refine (q5.out _).mono ?_)) | ((with_reducible refine (q6.out _).mono ?_))); rintro e w' ⟨rfl, rfl⟩)
              all_goals
                go_ret
                exact ⟨ret_int HR.out.symm, (Below.refl _ _).alloc (Nat.le_refl _) _⟩
          | true =>
            cases b4 with
            | false =>
              rcases hk' with rfl | rfl
              · have HR : Hid (tkWhy ⟨1, prio, period, offset, deadline, cost, room, lock, lo, hi⟩ ch = 1) := by
                  show _ = _
                  unfold tkWhy
                  simp only [e1, e2, e3, e4, e5, e6]
                  simp <;> omega
                unfold tkv
                clear e1 e2 e3 e4 e5 e6
                go_enter Try.func34, Try.ntmps34
                go_wp2_with (go_at_call 40; (first | ((with_reducible refine (q1.out _).mono ?_)) | ((with_reducible refine (q2.out _).mono ?_)) | ((with_reducible refine (q3.out _).mono ?_)) | ((with_reducible refine (q4.out _).mono ?_)) | ((with_reducible refine (q5.out _).mono ?_)) | ((with_reducible refine (q6.out _).mono ?_))); rintro e w' ⟨rfl, rfl⟩)
                all_goals
                  go_ret
                  exact ⟨ret_int HR.out.symm, (Below.refl _ _).alloc (Nat.le_refl _) _⟩
              · have HR : Hid (tkWhy ⟨2, prio, period, offset, deadline, cost, room, lock, lo, hi⟩ ch = 1) := by
                  show _ = _
                  unfold tkWhy
                  simp only [e1, e2, e3, e4, e5, e6]
                  simp <;> omega
                unfold tkv
                clear e1 e2 e3 e4 e5 e6
                go_enter Try.func34, Try.ntmps34
                go_wp2_with (go_at_call 40; (first | ((with_reducible refine (q1.out _).mono ?_)) | ((with_reducible refine (q2.out _).mono ?_)) | ((with_reducible refine (q3.out _).mono ?_)) | ((with_reducible refine (q4.out _).mono ?_)) | ((with_reducible refine (q5.out _).mono ?_)) | ((with_reducible refine (q6.out _).mono ?_))); rintro e w' ⟨rfl, rfl⟩)
                all_goals
                  go_ret
                  exact ⟨ret_int HR.out.symm, (Below.refl _ _).alloc (Nat.le_refl _) _⟩
            | true =>
              cases b5 with
              | false =>
                rcases hk' with rfl | rfl
                · have HR : Hid (tkWhy ⟨1, prio, period, offset, deadline, cost, room, lock, lo, hi⟩ ch = 1) := by
                    show _ = _
                    unfold tkWhy
                    simp only [e1, e2, e3, e4, e5, e6]
                    simp <;> omega
                  unfold tkv
                  clear e1 e2 e3 e4 e5 e6
                  go_enter Try.func34, Try.ntmps34
                  go_wp2_with (go_at_call 40; (first | ((with_reducible refine (q1.out _).mono ?_)) | ((with_reducible refine (q2.out _).mono ?_)) | ((with_reducible refine (q3.out _).mono ?_)) | ((with_reducible refine (q4.out _).mono ?_)) | ((with_reducible refine (q5.out _).mono ?_)) | ((with_reducible refine (q6.out _).mono ?_))); rintro e w' ⟨rfl, rfl⟩)
                  all_goals
                    go_ret
                    exact ⟨ret_int HR.out.symm, (Below.refl _ _).alloc (Nat.le_refl _) _⟩
                · have HR : Hid (tkWhy ⟨2, prio, period, offset, deadline, cost, room, lock, lo, hi⟩ ch = 1) := by
                    show _ = _
                    unfold tkWhy
                    simp only [e1, e2, e3, e4, e5, e6]
                    simp <;> omega
                  unfold tkv
                  clear e1 e2 e3 e4 e5 e6
                  go_enter Try.func34, Try.ntmps34
                  go_wp2_with (go_at_call 40; (first | ((with_reducible refine (q1.out _).mono ?_)) | ((with_reducible refine (q2.out _).mono ?_)) | ((with_reducible refine (q3.out _).mono ?_)) | ((with_reducible refine (q4.out _).mono ?_)) | ((with_reducible refine (q5.out _).mono ?_)) | ((with_reducible refine (q6.out _).mono ?_))); rintro e w' ⟨rfl, rfl⟩)
                  all_goals
                    go_ret
                    exact ⟨ret_int HR.out.symm, (Below.refl _ _).alloc (Nat.le_refl _) _⟩
              | true =>
                obtain ⟨d1, d2⟩ := i5.out.1 rfl
                by_cases hS : kind = 2 ∧ 0 < offset
                · obtain ⟨rfl, ho⟩ := hS
                  have HR : Hid (tkWhy ⟨2, prio, period, offset, deadline, cost, room, lock, lo, hi⟩ ch = 1) := by
                    show _ = _
                    unfold tkWhy
                    simp only [e1, e2, e3, e4, e5, e6]
                    simp <;> omega
                  unfold tkv
                  clear e1 e2 e3 e4 e5 e6
                  go_enter Try.func34, Try.ntmps34
                  go_wp2_with (go_at_call 40; (first | ((with_reducible refine (q1.out _).mono ?_)) | ((with_reducible refine (q2.out _).mono ?_)) | ((with_reducible refine (q3.out _).mono ?_)) | ((with_reducible refine (q4.out _).mono ?_)) | ((with_reducible refine (q5.out _).mono ?_)) | ((with_reducible refine (q6.out _).mono ?_))); rintro e w' ⟨rfl, rfl⟩)
                  all_goals
                    go_ret
                    exact ⟨ret_int HR.out.symm, (Below.refl _ _).alloc (Nat.le_refl _) _⟩
                · have hS' : kind = 1 ∨ (kind = 2 ∧ offset ≤ 0) := by omega
                  clear hk' hS
                  by_cases hD : period < deadline
                  · rcases hS' with rfl | ⟨rfl, ho⟩
                    · have HR : Hid (tkWhy ⟨1, prio, period, offset, deadline, cost, room, lock, lo, hi⟩ ch = 11) := by
                        show _ = _
                        unfold tkWhy
                        simp only [e1, e2, e3, e4, e5, e6]
                        simp <;> omega
                      unfold tkv
                      clear e1 e2 e3 e4 e5 e6
                      go_enter Try.func34, Try.ntmps34
                      go_wp2_with (go_at_call 40; (first | ((with_reducible refine (q1.out _).mono ?_)) | ((with_reducible refine (q2.out _).mono ?_)) | ((with_reducible refine (q3.out _).mono ?_)) | ((with_reducible refine (q4.out _).mono ?_)) | ((with_reducible refine (q5.out _).mono ?_)) | ((with_reducible refine (q6.out _).mono ?_))); rintro e w' ⟨rfl, rfl⟩)
                      all_goals
                        go_ret
                        exact ⟨ret_int HR.out.symm, (Below.refl _ _).alloc (Nat.le_refl _) _⟩
                    · have HR : Hid (tkWhy ⟨2, prio, period, offset, deadline, cost, room, lock, lo, hi⟩ ch = 11) := by
                        show _ = _
                        unfold tkWhy
                        simp only [e1, e2, e3, e4, e5, e6]
                        simp <;> omega
                      unfold tkv
                      clear e1 e2 e3 e4 e5 e6
                      go_enter Try.func34, Try.ntmps34
                      go_wp2_with (go_at_call 40; (first | ((with_reducible refine (q1.out _).mono ?_)) | ((with_reducible refine (q2.out _).mono ?_)) | ((with_reducible refine (q3.out _).mono ?_)) | ((with_reducible refine (q4.out _).mono ?_)) | ((with_reducible refine (q5.out _).mono ?_)) | ((with_reducible refine (q6.out _).mono ?_))); rintro e w' ⟨rfl, rfl⟩)
                      all_goals
                        go_ret
                        exact ⟨ret_int HR.out.symm, (Below.refl _ _).alloc (Nat.le_refl _) _⟩
                  · cases b6 with
                    | false =>
                      rcases hS' with rfl | ⟨rfl, ho⟩
                      · have HR : Hid (tkWhy ⟨1, prio, period, offset, deadline, cost, room, lock, lo, hi⟩ ch = 14) := by
                          show _ = _
                          unfold tkWhy
                          simp only [e1, e2, e3, e4, e5, e6]
                          simp <;> omega
                        unfold tkv
                        clear e1 e2 e3 e4 e5 e6
                        go_enter Try.func34, Try.ntmps34
                        go_wp2_with (go_at_call 40; (first | ((with_reducible refine (q1.out _).mono ?_)) | ((with_reducible refine (q2.out _).mono ?_)) | ((with_reducible refine (q3.out _).mono ?_)) | ((with_reducible refine (q4.out _).mono ?_)) | ((with_reducible refine (q5.out _).mono ?_)) | ((with_reducible refine (q6.out _).mono ?_))); rintro e w' ⟨rfl, rfl⟩)
                        all_goals
                          go_ret
                          exact ⟨ret_int HR.out.symm, (Below.refl _ _).alloc (Nat.le_refl _) _⟩
                      · have HR : Hid (tkWhy ⟨2, prio, period, offset, deadline, cost, room, lock, lo, hi⟩ ch = 14) := by
                          show _ = _
                          unfold tkWhy
                          simp only [e1, e2, e3, e4, e5, e6]
                          simp <;> omega
                        unfold tkv
                        clear e1 e2 e3 e4 e5 e6
                        go_enter Try.func34, Try.ntmps34
                        go_wp2_with (go_at_call 40; (first | ((with_reducible refine (q1.out _).mono ?_)) | ((with_reducible refine (q2.out _).mono ?_)) | ((with_reducible refine (q3.out _).mono ?_)) | ((with_reducible refine (q4.out _).mono ?_)) | ((with_reducible refine (q5.out _).mono ?_)) | ((with_reducible refine (q6.out _).mono ?_))); rintro e w' ⟨rfl, rfl⟩)
                        all_goals
                          go_ret
                          exact ⟨ret_int HR.out.symm, (Below.refl _ _).alloc (Nat.le_refl _) _⟩
                    | true =>
                      obtain ⟨c1, c2⟩ := i6.out.1 rfl
                      by_cases hC : deadline - cost < ch
                      · rcases hS' with rfl | ⟨rfl, ho⟩
                        · have HR : Hid (tkWhy ⟨1, prio, period, offset, deadline, cost, room, lock, lo, hi⟩ ch = 14) := by
                            show _ = _
                            unfold tkWhy
                            simp only [e1, e2, e3, e4, e5, e6]
                            simp <;> omega
                          unfold tkv
                          clear e1 e2 e3 e4 e5 e6
                          go_enter Try.func34, Try.ntmps34
                          go_wp2_with (go_at_call 40; (first | ((with_reducible refine (q1.out _).mono ?_)) | ((with_reducible refine (q2.out _).mono ?_)) | ((with_reducible refine (q3.out _).mono ?_)) | ((with_reducible refine (q4.out _).mono ?_)) | ((with_reducible refine (q5.out _).mono ?_)) | ((with_reducible refine (q6.out _).mono ?_))); rintro e w' ⟨rfl, rfl⟩)
                          all_goals
                            go_ret
                            exact ⟨ret_int HR.out.symm, (Below.refl _ _).alloc (Nat.le_refl _) _⟩
                        · have HR : Hid (tkWhy ⟨2, prio, period, offset, deadline, cost, room, lock, lo, hi⟩ ch = 14) := by
                            show _ = _
                            unfold tkWhy
                            simp only [e1, e2, e3, e4, e5, e6]
                            simp <;> omega
                          unfold tkv
                          clear e1 e2 e3 e4 e5 e6
                          go_enter Try.func34, Try.ntmps34
                          go_wp2_with (go_at_call 40; (first | ((with_reducible refine (q1.out _).mono ?_)) | ((with_reducible refine (q2.out _).mono ?_)) | ((with_reducible refine (q3.out _).mono ?_)) | ((with_reducible refine (q4.out _).mono ?_)) | ((with_reducible refine (q5.out _).mono ?_)) | ((with_reducible refine (q6.out _).mono ?_))); rintro e w' ⟨rfl, rfl⟩)
                          all_goals
                            go_ret
                            exact ⟨ret_int HR.out.symm, (Below.refl _ _).alloc (Nat.le_refl _) _⟩
                      · by_cases hl : 0 ≤ lock
                        · by_cases h1 : lo < 0
                          · rcases hS' with rfl | ⟨rfl, ho⟩
                            · have HR : Hid (tkWhy ⟨1, prio, period, offset, deadline, cost, room, lock, lo, hi⟩ ch = 14) := by
                                show _ = _
                                unfold tkWhy
                                simp only [e1, e2, e3, e4, e5, e6]
                                simp <;> omega
                              unfold tkv
                              clear e1 e2 e3 e4 e5 e6
                              go_enter Try.func34, Try.ntmps34
                              go_wp2_with (go_at_call 40; (first | ((with_reducible refine (q1.out _).mono ?_)) | ((with_reducible refine (q2.out _).mono ?_)) | ((with_reducible refine (q3.out _).mono ?_)) | ((with_reducible refine (q4.out _).mono ?_)) | ((with_reducible refine (q5.out _).mono ?_)) | ((with_reducible refine (q6.out _).mono ?_))); rintro e w' ⟨rfl, rfl⟩)
                              all_goals
                                go_ret
                                exact ⟨ret_int HR.out.symm, (Below.refl _ _).alloc (Nat.le_refl _) _⟩
                            · have HR : Hid (tkWhy ⟨2, prio, period, offset, deadline, cost, room, lock, lo, hi⟩ ch = 14) := by
                                show _ = _
                                unfold tkWhy
                                simp only [e1, e2, e3, e4, e5, e6]
                                simp <;> omega
                              unfold tkv
                              clear e1 e2 e3 e4 e5 e6
                              go_enter Try.func34, Try.ntmps34
                              go_wp2_with (go_at_call 40; (first | ((with_reducible refine (q1.out _).mono ?_)) | ((with_reducible refine (q2.out _).mono ?_)) | ((with_reducible refine (q3.out _).mono ?_)) | ((with_reducible refine (q4.out _).mono ?_)) | ((with_reducible refine (q5.out _).mono ?_)) | ((with_reducible refine (q6.out _).mono ?_))); rintro e w' ⟨rfl, rfl⟩)
                              all_goals
                                go_ret
                                exact ⟨ret_int HR.out.symm, (Below.refl _ _).alloc (Nat.le_refl _) _⟩
                          · by_cases h2 : hi ≤ lo
                            · rcases hS' with rfl | ⟨rfl, ho⟩
                              · have HR : Hid (tkWhy ⟨1, prio, period, offset, deadline, cost, room, lock, lo, hi⟩ ch = 14) := by
                                  show _ = _
                                  unfold tkWhy
                                  simp only [e1, e2, e3, e4, e5, e6]
                                  simp <;> omega
                                unfold tkv
                                clear e1 e2 e3 e4 e5 e6
                                go_enter Try.func34, Try.ntmps34
                                go_wp2_with (go_at_call 40; (first | ((with_reducible refine (q1.out _).mono ?_)) | ((with_reducible refine (q2.out _).mono ?_)) | ((with_reducible refine (q3.out _).mono ?_)) | ((with_reducible refine (q4.out _).mono ?_)) | ((with_reducible refine (q5.out _).mono ?_)) | ((with_reducible refine (q6.out _).mono ?_))); rintro e w' ⟨rfl, rfl⟩)
                                all_goals
                                  go_ret
                                  exact ⟨ret_int HR.out.symm, (Below.refl _ _).alloc (Nat.le_refl _) _⟩
                              · have HR : Hid (tkWhy ⟨2, prio, period, offset, deadline, cost, room, lock, lo, hi⟩ ch = 14) := by
                                  show _ = _
                                  unfold tkWhy
                                  simp only [e1, e2, e3, e4, e5, e6]
                                  simp <;> omega
                                unfold tkv
                                clear e1 e2 e3 e4 e5 e6
                                go_enter Try.func34, Try.ntmps34
                                go_wp2_with (go_at_call 40; (first | ((with_reducible refine (q1.out _).mono ?_)) | ((with_reducible refine (q2.out _).mono ?_)) | ((with_reducible refine (q3.out _).mono ?_)) | ((with_reducible refine (q4.out _).mono ?_)) | ((with_reducible refine (q5.out _).mono ?_)) | ((with_reducible refine (q6.out _).mono ?_))); rintro e w' ⟨rfl, rfl⟩)
                                all_goals
                                  go_ret
                                  exact ⟨ret_int HR.out.symm, (Below.refl _ _).alloc (Nat.le_refl _) _⟩
                            · by_cases h3 : cost < hi
                              · rcases hS' with rfl | ⟨rfl, ho⟩
                                · have HR : Hid (tkWhy ⟨1, prio, period, offset, deadline, cost, room, lock, lo, hi⟩ ch = 14) := by
                                    show _ = _
                                    unfold tkWhy
                                    simp only [e1, e2, e3, e4, e5, e6]
                                    simp <;> omega
                                  unfold tkv
                                  clear e1 e2 e3 e4 e5 e6
                                  go_enter Try.func34, Try.ntmps34
                                  go_wp2_with (go_at_call 40; (first | ((with_reducible refine (q1.out _).mono ?_)) | ((with_reducible refine (q2.out _).mono ?_)) | ((with_reducible refine (q3.out _).mono ?_)) | ((with_reducible refine (q4.out _).mono ?_)) | ((with_reducible refine (q5.out _).mono ?_)) | ((with_reducible refine (q6.out _).mono ?_))); rintro e w' ⟨rfl, rfl⟩)
                                  all_goals
                                    go_ret
                                    exact ⟨ret_int HR.out.symm, (Below.refl _ _).alloc (Nat.le_refl _) _⟩
                                · have HR : Hid (tkWhy ⟨2, prio, period, offset, deadline, cost, room, lock, lo, hi⟩ ch = 14) := by
                                    show _ = _
                                    unfold tkWhy
                                    simp only [e1, e2, e3, e4, e5, e6]
                                    simp <;> omega
                                  unfold tkv
                                  clear e1 e2 e3 e4 e5 e6
                                  go_enter Try.func34, Try.ntmps34
                                  go_wp2_with (go_at_call 40; (first | ((with_reducible refine (q1.out _).mono ?_)) | ((with_reducible refine (q2.out _).mono ?_)) | ((with_reducible refine (q3.out _).mono ?_)) | ((with_reducible refine (q4.out _).mono ?_)) | ((with_reducible refine (q5.out _).mono ?_)) | ((with_reducible refine (q6.out _).mono ?_))); rintro e w' ⟨rfl, rfl⟩)
                                  all_goals
                                    go_ret
                                    exact ⟨ret_int HR.out.symm, (Below.refl _ _).alloc (Nat.le_refl _) _⟩
                              · rcases hS' with rfl | ⟨rfl, ho⟩
                                · have HR : Hid (tkWhy ⟨1, prio, period, offset, deadline, cost, room, lock, lo, hi⟩ ch = 0) := by
                                    show _ = _
                                    unfold tkWhy
                                    simp only [e1, e2, e3, e4, e5, e6]
                                    simp <;> omega
                                  unfold tkv
                                  clear e1 e2 e3 e4 e5 e6
                                  go_enter Try.func34, Try.ntmps34
                                  go_wp2_with (go_at_call 40; (first | ((with_reducible refine (q1.out _).mono ?_)) | ((with_reducible refine (q2.out _).mono ?_)) | ((with_reducible refine (q3.out _).mono ?_)) | ((with_reducible refine (q4.out _).mono ?_)) | ((with_reducible refine (q5.out _).mono ?_)) | ((with_reducible refine (q6.out _).mono ?_))); rintro e w' ⟨rfl, rfl⟩)
                                  all_goals
                                    go_ret
                                    exact ⟨ret_int HR.out.symm, (Below.refl _ _).alloc (Nat.le_refl _) _⟩
                                · have HR : Hid (tkWhy ⟨2, prio, period, offset, deadline, cost, room, lock, lo, hi⟩ ch = 0) := by
                                    show _ = _
                                    unfold tkWhy
                                    simp only [e1, e2, e3, e4, e5, e6]
                                    simp <;> omega
                                  unfold tkv
                                  clear e1 e2 e3 e4 e5 e6
                                  go_enter Try.func34, Try.ntmps34
                                  go_wp2_with (go_at_call 40; (first | ((with_reducible refine (q1.out _).mono ?_)) | ((with_reducible refine (q2.out _).mono ?_)) | ((with_reducible refine (q3.out _).mono ?_)) | ((with_reducible refine (q4.out _).mono ?_)) | ((with_reducible refine (q5.out _).mono ?_)) | ((with_reducible refine (q6.out _).mono ?_))); rintro e w' ⟨rfl, rfl⟩)
                                  all_goals
                                    go_ret
                                    exact ⟨ret_int HR.out.symm, (Below.refl _ _).alloc (Nat.le_refl _) _⟩
                        · rcases hS' with rfl | ⟨rfl, ho⟩
                          · have HR : Hid (tkWhy ⟨1, prio, period, offset, deadline, cost, room, lock, lo, hi⟩ ch = 0) := by
                              show _ = _
                              unfold tkWhy
                              simp only [e1, e2, e3, e4, e5, e6]
                              simp <;> omega
                            unfold tkv
                            clear e1 e2 e3 e4 e5 e6
                            go_enter Try.func34, Try.ntmps34
                            go_wp2_with (go_at_call 40; (first | ((with_reducible refine (q1.out _).mono ?_)) | ((with_reducible refine (q2.out _).mono ?_)) | ((with_reducible refine (q3.out _).mono ?_)) | ((with_reducible refine (q4.out _).mono ?_)) | ((with_reducible refine (q5.out _).mono ?_)) | ((with_reducible refine (q6.out _).mono ?_))); rintro e w' ⟨rfl, rfl⟩)
                            all_goals
                              go_ret
                              exact ⟨ret_int HR.out.symm, (Below.refl _ _).alloc (Nat.le_refl _) _⟩
                          · have HR : Hid (tkWhy ⟨2, prio, period, offset, deadline, cost, room, lock, lo, hi⟩ ch = 0) := by
                              show _ = _
                              unfold tkWhy
                              simp only [e1, e2, e3, e4, e5, e6]
                              simp <;> omega
                            unfold tkv
                            clear e1 e2 e3 e4 e5 e6
                            go_enter Try.func34, Try.ntmps34
                            go_wp2_with (go_at_call 40; (first | ((with_reducible refine (q1.out _).mono ?_)) | ((with_reducible refine (q2.out _).mono ?_)) | ((with_reducible refine (q3.out _).mono ?_)) | ((with_reducible refine (q4.out _).mono ?_)) | ((with_reducible refine (q5.out _).mono ?_)) | ((with_reducible refine (q6.out _).mono ?_))); rintro e w' ⟨rfl, rfl⟩)
                            all_goals
                              go_ret
                              exact ⟨ret_int HR.out.symm, (Below.refl _ _).alloc (Nat.le_refl _) _⟩
end Go.Proofs.Ytgampofpabllbaa

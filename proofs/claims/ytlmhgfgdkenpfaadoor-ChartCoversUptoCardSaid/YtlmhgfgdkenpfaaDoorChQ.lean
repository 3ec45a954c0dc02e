/- Packages chart and vergelaw39, plain: what somebody's share comes to where the runs cover a time. No program in sight. -/
import Derived.Test.YtlmhgfgdkenpfaaDoorChG
namespace Go.Proofs.YtlmhgfgdkenpfaaDoor
open Go.RowKit Go.Shelf

theorem shG_cv (k o : Int) : ∀ {l : List Rn} {s e p : Int}, Cv l s e → 0 ≤ p → p + (e - s) ≤ 9223372036854775807 → shG k o p l = p + shR l k o
  | [], s, e, p, h, _, _ => by show p = p + 0; omega
  | x :: l, s, e, p, h, h0, h1 => by
    obtain ⟨e1, e2, e3⟩ := cv_tail h
    have e4 := (cv_all e3).2
    show shG k o (if x.kind = k ∧ x.who = o ∧ x.ff < x.tt then wrap64 (p + wrap64 (x.tt - x.ff)) else p) l = p + ((if x.kind = k ∧ x.who = o ∧ x.ff < x.tt then x.tt - x.ff else 0) + shR l k o)
    by_cases hc : x.kind = k ∧ x.who = o ∧ x.ff < x.tt
    · rw [if_pos hc, if_pos hc, Go.IntWalk.wrap64_in (x.tt - x.ff) (by omega), Go.IntWalk.wrap64_in (p + (x.tt - x.ff)) (by omega), shG_cv k o e3 (by omega) (by omega)]
      omega
    · rw [if_neg hc, if_neg hc, shG_cv k o e3 h0 (by omega)]
      omega
end Go.Proofs.YtlmhgfgdkenpfaaDoor

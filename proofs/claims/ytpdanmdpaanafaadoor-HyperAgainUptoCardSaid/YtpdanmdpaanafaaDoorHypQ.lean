/- Plain laws of periods: what the times of a task, and how many there are, come to. No program in sight. -/
import Derived.Test.YtpdanmdpaanafaaDoorHypI
namespace Go.Proofs.YtpdanmdpaanafaaDoor
open Go.RowKit

theorem lcmGo_dvd : ∀ {l : List Nat} {all v : Nat}, 0 < all → (∀ n ∈ l, 0 < n) → lcmGo all l = some v → 0 < v ∧ all ∣ v ∧ ∀ n ∈ l, n ∣ v
  | [], all, v, h0, _, h => by
    have : all = v := by injection h
    subst this
    exact ⟨h0, Nat.dvd_refl _, fun n hn => by cases hn⟩
  | n :: l, all, v, h0, hl, h => by
    have hn := hl n (by simp)
    unfold lcmGo at h
    split at h
    · cases h
    · have hb := lcm_by h0 hn
      obtain ⟨k1, k2, k3⟩ := lcmGo_dvd (Nat.mul_pos h0 hb) (fun x hx => hl x (by simp [hx])) h
      refine ⟨k1, Nat.dvd_trans (Nat.dvd_mul_right _ _) k2, fun x hx => ?_⟩
      rcases List.mem_cons.1 hx with rfl | hx
      · refine Nat.dvd_trans ?_ k2
        have e : Nat.gcd all x * (x / Nat.gcd all x) = x := Nat.mul_div_cancel' (Nat.gcd_dvd_right _ _)
        conv => lhs; rw [← e]
        exact Nat.mul_dvd_mul_right (Nat.gcd_dvd_left _ _) _
      · exact k3 x hx
theorem lcmOf_dvd {l : List Int} {p : Int} (h : lcmOf l = (p, 0)) : ∃ v : Nat, p = v ∧ 0 < v ∧ ∀ n ∈ l, n.toNat ∣ v ∧ 1 ≤ n := by
  unfold lcmOf at h
  split at h
  · rename_i hall
    rw [List.all_eq_true] at hall
    have hok : ∀ n ∈ l, 1 ≤ n := fun n hn => by have := hall n hn; unfold okN at this; simp at this; exact this.1
    cases hg : lcmGo 1 (l.map Int.toNat) with
    | none => rw [hg] at h; cases h
    | some v =>
      rw [hg] at h
      obtain ⟨k1, _, k3⟩ := lcmGo_dvd (by omega) (fun n hn => by
        obtain ⟨x, hx, rfl⟩ := List.mem_map.1 hn
        have := hok x hx
        omega) hg
      refine ⟨v, ?_, k1, fun n hn => ⟨k3 _ (List.mem_map.2 ⟨n, hn, rfl⟩), hok n hn⟩⟩
      have : ((v : Int), (0 : Int)) = (p, 0) := h
      injection this with h1
      exact h1.symm
  · cases h
theorem ahead_at {off per k : Int} (ho : 0 ≤ off) (hp : 1 ≤ per) (hk : 0 ≤ k) : aheadOf off per (off + k * per) = k ∧ aheadOf off per (off + k * per + 1) = k + 1 ∧ aheadOf off per 0 = 0 := by
  have hkp : 0 ≤ k * per := Int.mul_nonneg hk (by omega)
  refine ⟨?_, ?_, ?_⟩
  · unfold aheadOf
    by_cases h0 : k = 0
    · subst h0; simp
    · have h1 : per ≤ k * per := by
        have := Int.mul_le_mul_of_nonneg_right (show 1 ≤ k by omega) (show 0 ≤ per by omega)
        omega
      rw [if_neg (by omega), show off + k * per - off - 1 = (per - 1) + (k - 1) * per by rw [Int.sub_mul]; omega, Int.add_mul_ediv_right _ _ (by omega), Int.ediv_eq_zero_of_lt (by omega) (by omega)]
      omega
  · unfold aheadOf
    rw [if_neg (by omega), show off + k * per + 1 - off - 1 = k * per by omega, Int.mul_ediv_cancel _ (by omega)]
  · unfold aheadOf
    rw [if_pos ho]
theorem ahead_more {off per u q : Int} (hp : 1 ≤ per) (hu : off ≤ u) (hq : 1 ≤ q) : aheadOf off per (u + q * per) = aheadOf off per u + q := by
  have h1 : per ≤ q * per := by
    have := Int.mul_le_mul_of_nonneg_right hq (show 0 ≤ per by omega)
    omega
  unfold aheadOf
  rw [if_neg (by omega)]
  by_cases h : u ≤ off
  · rw [if_pos h, show u + q * per - off - 1 = (per - 1) + (q - 1) * per by rw [Int.sub_mul]; omega, Int.add_mul_ediv_right _ _ (by omega), Int.ediv_eq_zero_of_lt (by omega) (by omega)]
    omega
  · rw [if_neg h, show u + q * per - off - 1 = (u - off - 1) + q * per by omega, Int.add_mul_ediv_right _ _ (by omega)]
    omega

theorem openY_pair {y : Int} {ts : List Tk} {n k u v : Int} (h : openY y ts n [k] = 0) (hu : tmOk u = true) (hv : tmOk v = true) : openY y ts n [u, v] = 0 := by
  unfold openY at h ⊢
  split at h
  · exact absurd h (by assumption)
  rename_i h1
  rw [if_neg h1]
  split at h
  · cases h
  rename_i h2
  rw [if_neg h2]
  split at h
  · cases h
  split at h
  · cases h
  rename_i h3 h4
  rw [if_neg (by simp [hu, hv]), if_neg h4]
theorem openY_kind {y : Int} {ts : List Tk} {n : Int} {l : List Int} (h : openY y ts n l = 0) : (ts.getD n.toNat tk0).kind = 1 := by
  unfold openY at h
  split at h
  · exact absurd h (by assumption)
  split at h
  · cases h
  split at h
  · cases h
  split at h
  · cases h
  rename_i h4
  exact Classical.byContradiction h4
/-- What a task's time comes to. -/
structure NthOk (c : Cf) (n k nn : Int) : Prop where
  val : nthOf c n k = (nn, 0)
  why : c.why = 0
  n0 : 0 ≤ n
  n1 : n < c.ts.length
  nn0 : 0 ≤ nn
  nn1 : nn ≤ 4503599627370496
  off : 0 ≤ (c.ts.getD n.toNat tk0).offset ∧ (c.ts.getD n.toNat tk0).offset ≤ 1099511627776
  per : 1 ≤ (c.ts.getD n.toNat tk0).period ∧ (c.ts.getD n.toNat tk0).period ≤ 1099511627776
  j0 : jobsOf c n 0 nn = (k, 0)
  j1 : jobsOf c n nn (min (nn + 1) 4503599627370496) = (if nn < 4503599627370496 then 1 else 0, 0)
  jp : ∀ p u, periodOf c = (p, 0) → (c.ts.getD n.toNat tk0).offset ≤ u → u ≤ 2251799813685248 → p ≤ 2251799813685248 →
    1 ≤ p ∧ jobsOf c n u (u + p) = (p / (c.ts.getD n.toNat tk0).period, 0) ∧ p % (c.ts.getD n.toNat tk0).period = 0
theorem tm_ok {t : Int} (h : 0 ≤ t ∧ t ≤ 4503599627370496) : tmOk t = true := tmOk_true.2 h
theorem nth_cases (c : Cf) (n k : Int) : (∃ z, z ≠ 0 ∧ nthOf c n k = (0, z)) ∨ ∃ nn, NthOk c n k nn := by
  by_cases hy : openY c.why c.ts n [k] = 0
  · obtain ⟨ho, hp⟩ := open_in hy
    obtain ⟨hw, ⟨hn0, hn1⟩, htm⟩ := open_zero hy
    have hkind := openY_kind hy
    have hk : 0 ≤ k ∧ k ≤ 4503599627370496 := by
      simp only [List.all_cons, List.all_nil, Bool.and_true] at htm
      exact tmOk_true.1 htm
    have hm : n.toNat < c.ts.length := by omega
    have hmem : c.ts.getD n.toNat tk0 ∈ c.ts := by
      have e : c.ts.getD n.toNat tk0 = c.ts[n.toNat] := by simp [List.getD, hm]
      rw [e]; exact List.getElem_mem hm
    by_cases hov : (4503599627370496 - (c.ts.getD n.toNat tk0).offset) / (c.ts.getD n.toNat tk0).period < k
    · refine .inl ⟨10, by decide, ?_⟩
      unfold nthOf
      rw [if_neg (by simp [hy]), if_pos hov]
    · obtain ⟨q1, q2⟩ := nth_in ho hp hk.1 hov
      obtain ⟨a1, a2, a3⟩ := ahead_at ho.1 hp.1 hk.1
      refine .inr ⟨(c.ts.getD n.toNat tk0).offset + k * (c.ts.getD n.toNat tk0).period, ?_, hw, hn0, hn1, by omega, by omega, ho, hp, ?_, ?_, ?_⟩
      · unfold nthOf
        rw [if_neg (by simp [hy]), if_neg hov]
      · unfold jobsOf
        rw [if_neg (fun h => h (openY_pair hy (tm_ok (t := 0) (by omega)) (tm_ok (t := (c.ts.getD n.toNat tk0).offset + k * (c.ts.getD n.toNat tk0).period) (by omega)))), a1, a3]
        congr 1; omega
      · unfold jobsOf
        rw [if_neg (fun h => h (openY_pair hy (tm_ok (t := (c.ts.getD n.toNat tk0).offset + k * (c.ts.getD n.toNat tk0).period) (by omega)) (tm_ok (t := min ((c.ts.getD n.toNat tk0).offset + k * (c.ts.getD n.toNat tk0).period + 1) 4503599627370496) (by omega)))), a1]
        by_cases hlt : (c.ts.getD n.toNat tk0).offset + k * (c.ts.getD n.toNat tk0).period < 4503599627370496
        · rw [if_pos hlt, show min ((c.ts.getD n.toNat tk0).offset + k * (c.ts.getD n.toNat tk0).period + 1) 4503599627370496 = (c.ts.getD n.toNat tk0).offset + k * (c.ts.getD n.toNat tk0).period + 1 by omega, a2]
          congr 1; omega
        · rw [if_neg hlt, show min ((c.ts.getD n.toNat tk0).offset + k * (c.ts.getD n.toNat tk0).period + 1) 4503599627370496 = (c.ts.getD n.toNat tk0).offset + k * (c.ts.getD n.toNat tk0).period by omega, a1]
          congr 1; omega
      · intro p u hP hu1 hu2 hp2
        have hL : lcmOf (pers c.ts) = (p, 0) := by
          unfold periodOf at hP
          rw [if_neg (by simp [hw])] at hP
          split at hP
          · cases hP
          · exact hP
        obtain ⟨v, rfl, hv, hd⟩ := lcmOf_dvd hL
        obtain ⟨⟨q, hq⟩, _⟩ := hd (c.ts.getD n.toNat tk0).period (List.mem_map.2 ⟨_, List.mem_filter.2 ⟨hmem, by simpa using hkind⟩, rfl⟩)
        have hq1 : 1 ≤ (q : Int) := by
          have : q ≠ 0 := fun h => by rw [h] at hq; simp at hq; omega
          omega
        have e : (v : Int) = q * (c.ts.getD n.toNat tk0).period := by
          rw [hq, Int.natCast_mul, Int.mul_comm]
          congr 1
          omega
        refine ⟨by omega, ?_, ?_⟩
        · unfold jobsOf
          rw [if_neg (fun h => h (openY_pair hy (tm_ok (t := u) (by omega)) (tm_ok (t := u + v) (by omega))))]
          rw [e, ahead_more hp.1 hu1 hq1, Int.mul_ediv_cancel _ (by omega)]
          congr 1; omega
        · rw [e, Int.mul_emod_left]
  · refine .inl ⟨_, hy, ?_⟩
    unfold nthOf
    rw [if_pos hy]
end Go.Proofs.YtpdanmdpaanafaaDoor

/- Packages timers, vergeref09: what timers do, in plain lists. No premise of its own. -/
import Derived.Test.YtiblpnadninmbaaGreatDoorDuLY
namespace Go.Proofs.YtiblpnadninmbaaGreatDoor
open Go.RowKit Go.Shelf
/-- A timer's period. -/
structure Pe where
  id : Int
  long : Int
deriving DecidableEq
def pec (x : Pe) : List Value := [.int .i64 x.id, .int .i64 x.long]
def pe0 : Pe := ⟨0, 0⟩
def perD (P : List Pe) (id : Int) : Int := match P with
  | [] => 0
  | x :: l => if x.id = id then x.long else perD l id
def woD (P : List Pe) (id : Int) : List Pe := P.filter fun x => decide (x.id ≠ id)
/-- A timer that fired. -/
structure Fi where
  id : Int
  at' : Int
  late : Int
deriving DecidableEq
def fic (x : Fi) : List Value := [.int .i64 x.id, .int .i64 x.at', .int .i64 x.late]
def fi0 : Fi := ⟨0, 0, 0⟩
/-- The timers behind one that fired. -/
def fireL (room : Nat) (now : Int) (L : List Du) (P : List Pe) : List Du :=
  if perD P (popR now L).id = 0 then canL L (popR now L).id else insL room (canL L (popR now L).id) (popR now L).id ((popR now L).at' + perD P (popR now L).id)
def fireP (room : Nat) (now : Int) (L : List Du) (P : List Pe) : List Pe :=
  if perD P (popR now L).id = 0 then P else if insC room (canL L (popR now L).id) (popR now L).id ((popR now L).at' + perD P (popR now L).id) = 0 then P else woD P (popR now L).id
def fired (now : Int) (L : List Du) : Fi := ⟨(popR now L).id, (popR now L).at', now - (popR now L).at'⟩
/-- What a run tells, and leaves. -/
def runT (room : Nat) (now : Int) : Nat → List Du → List Pe → List Fi × List Du × List Pe
  | 0, L, P => ([], L, P)
  | n + 1, L, P => if (popR now L).at' ≤ now then (fired now L :: (runT room now n (fireL room now L P) (fireP room now L P)).1, (runT room now n (fireL room now L P) (fireP room now L P)).2) else ([], L, P)
theorem run_none {room : Nat} {now : Int} {L : List Du} {P : List Pe} (n : Nat) (hd : ¬ (popR now L).at' ≤ now) : runT room now n L P = ([], L, P) := by
  cases n with
  | zero => rfl
  | succ n => unfold runT; rw [if_neg hd]
theorem run_some {room : Nat} {now : Int} {L : List Du} {P : List Pe} (n : Nat) (hd : (popR now L).at' ≤ now) : runT room now (n + 1) L P = (fired now L :: (runT room now n (fireL room now L P) (fireP room now L P)).1, (runT room now n (fireL room now L P) (fireP room now L P)).2) := by
  rw [runT, if_pos hd]
theorem run_zero (room : Nat) (now : Int) (L : List Du) (P : List Pe) : runT room now 0 L P = ([], L, P) := rfl
/-- Periods of timers that are there. -/
structure PI (L : List Du) (P : List Pe) : Prop where
  long : ∀ x ∈ P, 1 ≤ x.long ∧ x.long ≤ 4503599627370496
  has : ∀ x ∈ P, hasD L x.id = true
theorem PI.zero (L : List Du) : PI L [] := ⟨fun x h => (by cases h), fun x h => (by cases h)⟩
theorem per_mem : ∀ {P : List Pe} {id : Int}, (∀ x ∈ P, x.id ≠ id) → perD P id = 0
  | [], _, _ => rfl
  | x :: P, id, h => by
    unfold perD
    rw [if_neg (h x (List.mem_cons_self ..))]
    exact per_mem fun y hy => h y (List.mem_cons_of_mem _ hy)
theorem per_in : ∀ {P : List Pe} {id : Int}, perD P id ≠ 0 → ∃ x ∈ P, x.id = id ∧ x.long = perD P id
  | [], _, h => absurd rfl h
  | x :: P, id, h => by
    unfold perD at h ⊢
    by_cases hx : x.id = id
    · rw [if_pos hx]
      exact ⟨x, List.mem_cons_self .., hx, rfl⟩
    · rw [if_neg hx] at h ⊢
      obtain ⟨y, h1, h2, h3⟩ := per_in h
      exact ⟨y, List.mem_cons_of_mem _ h1, h2, h3⟩
theorem per_wo (P : List Pe) (id q : Int) : perD (woD P id) q = if q = id then 0 else perD P q := by
  induction P with
  | nil => unfold woD; simp [perD]
  | cons x P ih =>
    unfold woD at ih ⊢
    by_cases hx : x.id = id
    · rw [List.filter_cons_of_neg (by simpa using hx), ih]
      by_cases hq : q = id
      · rw [if_pos hq, if_pos hq]
      · rw [if_neg hq, if_neg hq]
        show _ = if x.id = q then _ else _
        rw [if_neg (by omega)]
    · rw [List.filter_cons_of_pos (by simpa using hx)]
      show (if x.id = q then x.long else _) = _
      rw [ih]
      by_cases hq : q = id
      · rw [if_pos hq, if_neg (by omega), if_pos hq]
      · rw [if_neg hq, if_neg hq]
        rfl
theorem per_snoc {P : List Pe} (x : Pe) (q : Int) (hx : ∀ y ∈ P, y.id ≠ x.id) : perD (P ++ [x]) q = if q = x.id then x.long else perD P q := by
  induction P with
  | nil =>
    show (if x.id = q then _ else _) = _
    by_cases hq : q = x.id
    · rw [if_pos hq, if_pos hq.symm]
    · rw [if_neg hq, if_neg (by omega)]
  | cons y P ih =>
    show (if y.id = q then _ else perD (P ++ [x]) q) = _
    rw [ih fun z hz => hx z (List.mem_cons_of_mem _ hz)]
    have := hx y (List.mem_cons_self ..)
    by_cases hq : q = x.id
    · rw [if_pos hq, if_neg (by omega), if_pos hq]
    · rw [if_neg hq, if_neg hq]
      rfl
theorem PI.range {L : List Du} {P : List Pe} (h : PI L P) (id : Int) : 0 ≤ perD P id ∧ perD P id ≤ 4503599627370496 := by
  by_cases hz : perD P id = 0
  · omega
  · obtain ⟨x, h1, _, h3⟩ := per_in hz
    have := h.long x h1
    omega
theorem wo_mem {P : List Pe} {id : Int} {x : Pe} : x ∈ woD P id ↔ x ∈ P ∧ x.id ≠ id := by
  unfold woD
  rw [List.mem_filter]
  simp
theorem has_can (L : List Du) (id q : Int) : hasD (canL L id) q = true ↔ hasD L q = true ∧ q ≠ id := by
  rw [has_iff', has_iff']
  unfold canL
  constructor
  · rintro ⟨x, h1, h2⟩
    obtain ⟨h3, h4⟩ := List.mem_filter.1 h1
    exact ⟨⟨x, h3, h2⟩, by have : x.id ≠ id := by simpa using h4
                           omega⟩
  · rintro ⟨⟨x, h1, h2⟩, h3⟩
    exact ⟨x, List.mem_filter.2 ⟨h1, by simpa using fun h9 => h3 (by omega)⟩, h2⟩
theorem has_ins (room : Nat) (L : List Du) (id a q : Int) : hasD (insL room L id a) q = true ↔ hasD L q = true ∨ (insC room L id a = 0 ∧ q = id) := by
  rw [has_iff', has_iff']
  unfold insL
  by_cases hc : insC room L id a = 0
  · rw [if_pos hc]
    constructor
    · rintro ⟨x, h1, h2⟩
      rcases List.mem_append.1 h1 with h | h
      · exact .inl ⟨x, h, h2⟩
      · obtain rfl := List.mem_singleton.1 h
        exact .inr ⟨hc, h2.symm⟩
    · rintro (⟨x, h1, h2⟩ | ⟨_, rfl⟩)
      · exact ⟨x, List.mem_append_left _ h1, h2⟩
      · exact ⟨⟨q, a⟩, List.mem_append_right _ (List.mem_singleton.2 rfl), rfl⟩
  · rw [if_neg hc]
    constructor
    · exact fun h => .inl h
    · rintro (h | ⟨h, _⟩)
      · exact h
      · exact absurd h hc
theorem PI.ins {L : List Du} {P : List Pe} (h : PI L P) (room : Nat) (id a : Int) : PI (insL room L id a) P :=
  ⟨h.long, fun x hx => (has_ins ..).2 (.inl (h.has x hx))⟩
theorem PI.every {L : List Du} {P : List Pe} (h : PI L P) {room : Nat} {id a p : Int} (hc : insC room L id a = 0) (h1 : 1 ≤ p) (h2 : p ≤ 4503599627370496) : PI (insL room L id a) (P ++ [⟨id, p⟩]) ∧ ∀ y ∈ P, y.id ≠ id := by
  have hn : hasD L id = false := by
    unfold insC at hc
    split at hc
    · omega
    · split at hc
      · omega
      · rename_i h9
        simpa using h9
  refine ⟨⟨fun x hx => ?_, fun x hx => ?_⟩, fun y hy hi => ?_⟩
  · rcases List.mem_append.1 hx with hx | hx
    · exact h.long x hx
    · obtain rfl := List.mem_singleton.1 hx
      exact ⟨h1, h2⟩
  · rcases List.mem_append.1 hx with hx | hx
    · exact (has_ins ..).2 (.inl (h.has x hx))
    · obtain rfl := List.mem_singleton.1 hx
      exact (has_ins ..).2 (.inr ⟨hc, rfl⟩)
  · have := h.has y hy
    rw [hi, hn] at this
    cases this
theorem PI.stop {L : List Du} {P : List Pe} (h : PI L P) (id : Int) : PI (canL L id) (woD P id) :=
  ⟨fun x hx => h.long x (wo_mem.1 hx).1, fun x hx => (has_can ..).2 ⟨h.has x (wo_mem.1 hx).1, (wo_mem.1 hx).2⟩⟩
theorem PI.fire {L : List Du} {P : List Pe} (h : PI L P) (room : Nat) (now : Int) : PI (fireL room now L P) (fireP room now L P) := by
  unfold fireL fireP
  generalize popR now L = x
  by_cases hp : perD P x.id = 0
  · rw [if_pos hp, if_pos hp]
    refine ⟨h.long, fun y hy => (has_can ..).2 ⟨h.has y hy, fun hi => ?_⟩⟩
    have : ∀ {P : List Pe}, (∀ x ∈ P, 1 ≤ x.long) → y ∈ P → perD P y.id ≠ 0 := fun {P} => by
      induction P with
      | nil => intro _ hm; cases hm
      | cons z P ih =>
        intro hl hm
        show (if z.id = y.id then z.long else _) ≠ 0
        have h1 := hl z (List.mem_cons_self ..)
        by_cases hz : z.id = y.id
        · rw [if_pos hz]; omega
        · rw [if_neg hz]
          rcases List.mem_cons.1 hm with rfl | hm
          · exact absurd rfl hz
          · exact ih (fun u hu => hl u (List.mem_cons_of_mem _ hu)) hm
    exact this (fun u hu => (h.long u hu).1) hy (by rw [hi]; exact hp)
  · rw [if_neg hp, if_neg hp]
    by_cases hc : insC room (canL L x.id) x.id (x.at' + perD P x.id) = 0
    · rw [if_pos hc]
      refine ⟨h.long, fun y hy => (has_ins ..).2 ?_⟩
      by_cases hi : y.id = x.id
      · exact .inr ⟨hc, hi⟩
      · exact .inl ((has_can ..).2 ⟨h.has y hy, hi⟩)
    · rw [if_neg hc]
      have : insL room (canL L x.id) x.id (x.at' + perD P x.id) = canL L x.id := if_neg hc
      rw [this]
      exact h.stop x.id
/-- A run, as far as it is. -/
structure RuI (room : Nat) (now : Int) (L0 : List Du) (P0 : List Pe) (out : List Fi) (L : List Du) (P : List Pe) : Prop where
  le : out.length ≤ 1024
  run : runT room now 1024 L0 P0 = (out ++ (runT room now (1024 - out.length) L P).1, (runT room now (1024 - out.length) L P).2)
theorem RuI.zero (room : Nat) (now : Int) (L : List Du) (P : List Pe) : RuI room now L P [] L P := ⟨by simp, rfl⟩
theorem RuI.step {room : Nat} {now : Int} {L0 L : List Du} {P0 P : List Pe} {out : List Fi} (h : RuI room now L0 P0 out L P) (hl : out.length < 1024) (hd : (popR now L).at' ≤ now) :
    RuI room now L0 P0 (out ++ [fired now L]) (fireL room now L P) (fireP room now L P) := by
  obtain ⟨k, hk⟩ : ∃ k, 1024 - out.length = k + 1 := ⟨1023 - out.length, by omega⟩
  have h1 := h.run
  rw [hk, run_some k hd] at h1
  refine ⟨by simp; omega, ?_⟩
  rw [h1, List.length_append, show 1024 - (out.length + [fired now L].length) = k by simp; omega, List.append_assoc]
  rfl
theorem RuI.full {room : Nat} {now : Int} {L0 L : List Du} {P0 P : List Pe} {out : List Fi} (h : RuI room now L0 P0 out L P) (hl : ¬ out.length < 1024) : runT room now 1024 L0 P0 = (out, L, P) := by
  have h1 := h.run
  rw [show 1024 - out.length = 0 by omega, run_zero] at h1
  rw [h1, List.append_nil]
theorem RuI.stop {room : Nat} {now : Int} {L0 L : List Du} {P0 P : List Pe} {out : List Fi} (h : RuI room now L0 P0 out L P) (hd : ¬ (popR now L).at' ≤ now) : runT room now 1024 L0 P0 = (out, L, P) := by
  have h1 := h.run
  rw [run_none _ hd] at h1
  rw [h1, List.append_nil]
end Go.Proofs.YtiblpnadninmbaaGreatDoor
/- Package timers: memory; the walks of New, Start, Every, Stop, Period. Conditions: timers' memory. -/
namespace Go.Proofs.YtiblpnadninmbaaGreatDoor
open Go.RowKit Go.Shelf
attribute [local go_sem] Oper.semAt_some
/-- Timers' blocks. -/
structure TmF where
  pt : Nat
  mb : Nat
  f : WhF
def TmF.l (g : TmF) : List Nat := g.pt :: g.mb :: g.f.l
/-- A map of periods. -/
def PerM (w : World) (mb : Nat) (P : List Pe) (tn : Nat) : Prop :=
  ∃ M sz, MapN Tryz.prog 3 2 w mb M sz ∧ (∀ q, M q = if perD P q = 0 then none else some (perD P q)) ∧ sz ≤ tn
theorem mt_per : MapT Tryz.prog 81 3 2 := ⟨Tryz.underlying81, Tryz.underlying3, Tryz.underlying2, by kernel_rfl⟩
/-- Timers in memory. -/
structure Tms (w : World) (g : TmF) (room : Nat) (now : Int) (L : List Du) (P : List Pe) (tn : Nat) : Prop where
  box : w.heap[g.pt]? = some (.cells #[.pointer (some ⟨g.f.pw, 0, none⟩), .map (some g.mb)] 83 (0, 0))
  whl : Whl w g.f room now L tn
  per : PerM w g.mb P tn
  ap1 : g.pt ∉ g.f.l
  ap2 : g.mb ∉ g.f.l
  long : ∀ x ∈ P, 1 ≤ x.long ∧ x.long ≤ 4503599627370496
section
variable {w w' : World} {g : TmF} {room : Nat} {now now' : Int} {L L' : List Du} {P P' : List Pe} {tn tn' : Nat}
theorem Tms.ne (h : Tms w g room now L P tn) : g.pt ≠ g.mb := by
  obtain ⟨M, sz, h1, _⟩ := h.per
  exact map_ne h.box h1
theorem PerM.tns {F : List Nat} {mb : Nat} (h : PerM w mb P tn) (ht : Tn F w w') (hf : mb ∉ F) : PerM w' mb P tn := by
  obtain ⟨M, sz, h1, h2⟩ := h
  exact ⟨M, sz, MapN.tn h1 ht hf, h2⟩
theorem PerM.mono {mb : Nat} (h : PerM w mb P tn) (ht : tn ≤ tn') : PerM w mb P tn' := by
  obtain ⟨M, sz, h1, h2, h3⟩ := h
  exact ⟨M, sz, h1, h2, Nat.le_trans h3 ht⟩
theorem Tms.wheel (h : Tms w g room now L P tn) (hw : Whl w' g.f room now' L' tn') (ht : Tn g.f.l w w') (hn : tn ≤ tn') : Tms w' g room now' L' P tn' :=
  ⟨ht.box h.box h.ap1, hw, (h.per.tns ht h.ap2).mono hn, h.ap1, h.ap2, h.long⟩
theorem Tms.tnl (g : TmF) (ht : Tn g.f.l w w') : Tn g.l w w' := ht.mono fun _ hk => List.mem_cons_of_mem _ (List.mem_cons_of_mem _ hk)
theorem Tms.turn {F : List Nat} (h : Tms w g room now L P tn) (ht : Tn F w w') (hf : ∀ b ∈ g.l, b ∉ F) : Tms w' g room now L P tn :=
  ⟨ht.box h.box (hf _ (by simp [TmF.l])), h.whl.tn' ht (fun b hb => hf b (by simp [TmF.l, hb])), h.per.tns ht (hf _ (by simp [TmF.l])), h.ap1, h.ap2, h.long⟩
theorem Tms.below (h : Tms w g room now L P tn) (hb : Below w.heap.size w w') : Tms w' g room now L P tn := h.turn (Tn.of_below [] hb) (fun _ _ => by simp)
theorem Tms.lt (h : Tms w g room now L P tn) : ∀ b ∈ g.l, b < w.heap.size := fun b hb => by
  unfold TmF.l at hb
  rcases List.mem_cons.1 hb with rfl | hb
  · exact box_lt h.box
  · rcases List.mem_cons.1 hb with rfl | hb
    · obtain ⟨M, sz, h1, _⟩ := h.per
      exact h1.lt
    · exact h.whl.lt b hb
theorem Tms.mono (h : Tms w g room now L P tn) (ht : tn ≤ tn') : Tms w g room now L P tn' := ⟨h.box, h.whl.mono ht, h.per.mono ht, h.ap1, h.ap2, h.long⟩
theorem Tms.drewN (h : Tms w g room now L P tn) (n : Nat) : Tms (w.drewN n) g room now L P tn := h.turn (F := []) ((Tn.refl _ _).drewN n) (fun _ _ => by simp)
theorem Tms.drew1 (h : Tms w g room now L P tn) : Tms w.drew g room now L P tn := h.turn (F := []) (Tn.refl _ _).drew (fun _ _ => by simp)
theorem Tms.perRange (h : Tms w g room now L P tn) (id : Int) : 0 ≤ perD P id ∧ perD P id ≤ 4503599627370496 := by
  by_cases hz : perD P id = 0
  · omega
  · obtain ⟨x, h1, _, h3⟩ := per_in hz
    have := h.long x h1
    omega
theorem Tms.low {B : Nat} (h : Tms w g room now L P tn) (hb : Below B w w') (hf : ∀ b ∈ g.l, b < B) : Tms w' g room now L P tn := by
  obtain ⟨F, h1, h2⟩ := tnHigh hb
  exact h.turn h2 (fun b hb hm => by have := hf b hb; have := h1 b hm; omega)
/-- The map has turned. -/
theorem Tms.setMap {M' : Int → Option Int} {sz' : Nat} (h : Tms w g room now L P tn) (hg : w.grownBy w' (some g.mb)) (hm : MapN Tryz.prog 3 2 w' g.mb M' sz') (hM : ∀ q, M' q = if perD P' q = 0 then none else some (perD P' q)) (hs : sz' ≤ tn') (ht : tn ≤ tn')
    (hl : ∀ x ∈ P', 1 ≤ x.long ∧ x.long ≤ 4503599627370496) : Tms w' g room now L P' tn' := by
  have h1 : Tn [g.mb] w w' := (Tn.refl _ _).grown hg (fun k e => by cases e; simp)
  refine ⟨h1.box h.box (by simpa using h.ne), (h.whl.tn' h1 fun b hb => ?_).mono ht, ⟨M', sz', hm, hM, hs⟩, h.ap1, h.ap2, hl⟩
  intro hb'
  obtain rfl := List.mem_singleton.1 hb'
  exact h.ap2 hb
theorem Tms.grown (g : TmF) (hg : w.grownBy w' (some g.mb)) : Tn g.l w w' := (Tn.refl _ _).grown hg (fun k e => by cases e; simp [TmF.l])
end
def everyC (room : Nat) (L : List Du) (id a p : Int) : Int := if 1 ≤ p ∧ p ≤ 4503599627370496 then insC room L id a else 1
def everyL (room : Nat) (L : List Du) (id a p : Int) : List Du := if 1 ≤ p ∧ p ≤ 4503599627370496 then insL room L id a else L
def everyP (room : Nat) (L : List Du) (P : List Pe) (id a p : Int) : List Pe := if everyC room L id a p = 0 then P ++ [⟨id, p⟩] else P
theorem PI.everyR {L : List Du} {P : List Pe} (h : PI L P) (room : Nat) (id a p : Int) : PI (everyL room L id a p) (everyP room L P id a p) := by
  unfold everyL everyP everyC
  by_cases hp : 1 ≤ p ∧ p ≤ 4503599627370496
  · rw [if_pos hp, if_pos hp]
    by_cases hc : insC room L id a = 0
    · rw [if_pos hc]
      exact (h.every hc hp.1 hp.2).1
    · rw [if_neg hc]
      exact h.ins room id a
  · rw [if_neg hp, if_neg hp, if_neg (by decide)]
    exact h

set_option maxHeartbeats 4000000 in
set_option maxRecDepth 100000 in
theorem tstart_any (g : TmF) (room : Nat) (now : Int) (L : List Du) (P : List Pe) (tn : Nat) (w : World) (id a : Int) (h : Tms w g room now L P tn) (hi : I64N id) (ht : tn ≤ 1152921504606846976) :
    Calls Tryz.prog 29 #[.pointer (some ⟨g.pt, 0, none⟩), .int .i64 id, .int .i64 a] w fun e w' => e = .returned (.int .i64 (insC room L id a)) ∧ Tms w' g room now (insL room L id a) P (tn + 1) ∧ Tn g.l w w' := by
  have H := Lib.hid h
  have f1 := Lib.hid (whl_insert g.f room now L tn w id a h.whl hi ht)
  obtain ⟨xx, xy⟩ := box_rules (h).box
  have lx := box_lt (h).box
  clear h ht hi
  generalize insC room L id a = c at *
  generalize insL room L id a = L2 at *
  go_enter Tryz.func29, Tryz.ntmps29
  go_wp2_with (go_at_call 45; (with_reducible refine f1.out.mono ?_); rintro e w1 ⟨rfl, hw1, ht1⟩; have HW1 := Lib.hid (H.out.wheel hw1 ht1 (Nat.le_succ _)); have HT1 := Lib.hid (Tms.tnl g ht1); clear hw1 ht1)
  go_ret
  exact ⟨rfl, HW1.out, HT1.out⟩
set_option maxHeartbeats 4000000 in
set_option maxRecDepth 100000 in
theorem tstop_any (g : TmF) (room : Nat) (now : Int) (L : List Du) (P : List Pe) (tn : Nat) (w : World) (id : Int) (h : Tms w g room now L P tn) (hI : PI L P) (hi : I64N id) :
    Calls Tryz.prog 34 #[.pointer (some ⟨g.pt, 0, none⟩), .int .i64 id] w fun e w' => e = .returned (.int .i64 (canC L id)) ∧ Tms w' g room now (canL L id) (woD P id) tn ∧ Tn g.l w w' := by
  have H := Lib.hid h
  have f1 := Lib.hid (whl_cancel g.f room now L tn w id h.whl hi)
  have HI := Lib.hid hi
  by_cases hh : hasD L id = true
  · have hc : canC L id = 0 := if_pos hh
    rw [hc] at f1 ⊢
    obtain ⟨xx, xy⟩ := box_rules (h).box
    have lx := box_lt (h).box
    clear h hI hi hc hh
    generalize canL L id = L2 at *
    go_enter Tryz.func34, Tryz.ntmps34
    go_upto_region 2 with (go_at_call 55; (with_reducible refine f1.out.mono ?_); rintro e w1 ⟨rfl, hw1, ht1⟩; have HW1 := Lib.hid (H.out.wheel hw1 ht1 (Nat.le_refl _)); have HT1 := Lib.hid (Tms.tnl g ht1); clear hw1 ht1)
    clear xx xy lx
    obtain ⟨xx, xy⟩ := box_rules (HW1.out).box
    have lx := box_lt (HW1.out).box
    obtain ⟨M, sz, hM, hMq, hsz⟩ := HW1.out.per
    obtain ⟨w3, hrun, hm3, hg3⟩ := hM.del mt_per HI.out 0
    have HW3 : Hid (Tms w3 g room now L2 (woD P id) tn) := Lib.hid (HW1.out.setMap hg3 hm3 (fun q => by
      show (if q = id then none else M q) = _
      rw [per_wo, hMq]
      by_cases hq : q = id
      · rw [if_pos hq, if_pos hq, if_pos rfl]
      · rw [if_neg hq, if_neg hq]) (by split <;> omega) (Nat.le_refl _) (fun x hx => HW1.out.long x (wo_mem.1 hx).1))
    have HT3 := Lib.hid (HT1.out.trans (Tms.grown g hg3))
    clear hm3 hg3 hM hMq hsz
    go_wp2
    go_ret
    exact ⟨rfl, HW3.out, HT3.out⟩
  · have hc : canC L id = 3 := if_neg hh
    have hw : woD P id = P := List.filter_eq_self.2 fun x hx => by
      simp only [ne_eq, decide_eq_true_eq]
      exact fun e => hh (by rw [← e]; exact hI.has x hx)
    rw [hc] at f1 ⊢
    rw [hw]
    obtain ⟨xx, xy⟩ := box_rules (h).box
    have lx := box_lt (h).box
    clear h hI hi hc hh hw
    generalize canL L id = L2 at *
    go_enter Tryz.func34, Tryz.ntmps34
    go_wp2_with (go_at_call 55; (with_reducible refine f1.out.mono ?_); rintro e w1 ⟨rfl, hw1, ht1⟩; have HW1 := Lib.hid (H.out.wheel hw1 ht1 (Nat.le_refl _)); have HT1 := Lib.hid (Tms.tnl g ht1); clear hw1 ht1)
    go_ret
    exact ⟨rfl, HW1.out, HT1.out⟩
end Go.Proofs.YtiblpnadninmbaaGreatDoor
/- Package timers: the walks of Every, again, New. Conditions: timers' memory. -/
namespace Go.Proofs.YtiblpnadninmbaaGreatDoor
open Go.RowKit Go.Shelf
attribute [local go_sem] Oper.semAt_some

set_option maxHeartbeats 4000000 in
set_option maxRecDepth 100000 in
theorem tevery_any (g : TmF) (room : Nat) (now : Int) (L : List Du) (P : List Pe) (tn : Nat) (w : World) (id a p : Int) (h : Tms w g room now L P tn) (hI : PI L P) (hi : I64N id) (ht : tn ≤ 1152921504606846976) :
    Calls Tryz.prog 33 #[.pointer (some ⟨g.pt, 0, none⟩), .int .i64 id, .int .i64 a, .int .i64 p] w fun e w' => e = .returned (.int .i64 (everyC room L id a p)) ∧ Tms w' g room now (everyL room L id a p) (everyP room L P id a p) (tn + 1) ∧ Tn g.l w w' := by
  have H := Lib.hid h
  unfold everyL everyP everyC
  by_cases hp : 1 ≤ p ∧ p ≤ 4503599627370496
  · simp only [if_pos hp]
    have f1 := Lib.hid (whl_insert g.f room now L tn w id a h.whl hi ht)
    have HI := Lib.hid hi
    by_cases hc : insC room L id a = 0
    · rw [hc] at f1 ⊢
      have HP := Lib.hid (hI.every hc hp.1 hp.2)
      simp only [if_true]
      obtain ⟨xx, xy⟩ := box_rules (h).box
      have lx := box_lt (h).box
      clear h hI hi hc
      generalize insL room L id a = L2 at *
      go_enter Tryz.func33, Tryz.ntmps33
      go_upto_region 4 with (go_at_call 45; (with_reducible refine f1.out.mono ?_); rintro e w1 ⟨rfl, hw1, ht1⟩; have HW1 := Lib.hid (H.out.wheel hw1 ht1 (Nat.le_succ _)); have HT1 := Lib.hid (Tms.tnl g ht1); have HQ1 := Lib.hid (H.out.per.tns ht1 H.out.ap2); clear hw1 ht1)
      clear xx xy lx
      obtain ⟨xx, xy⟩ := box_rules (HW1.out).box
      have lx := box_lt (HW1.out).box
      obtain ⟨M, sz, hM, hMq, hsz⟩ := HQ1.out
      have hpr := hp
      obtain ⟨w3, hrun, hm3, hg3⟩ := hM.put mt_per (by omega) HI.out (v := p) (by unfold I64N; omega)
      have HW3 : Hid (Tms w3 g room now L2 (P ++ [⟨id, p⟩]) (tn + 1)) := Lib.hid (HW1.out.setMap hg3 hm3 (fun q => by
        show (if q = id then some p else M q) = _
        rw [per_snoc _ _ HP.out.2, hMq]
        by_cases hq : q = id
        · rw [if_pos hq, if_pos hq, if_neg (by show ¬ p = 0; omega)]
        · rw [if_neg hq, if_neg hq]) (by split <;> omega) (Nat.le_refl _) HP.out.1.long)
      have HT3 := Lib.hid (HT1.out.trans (Tms.grown g hg3))
      clear hm3 hg3 hM hMq hsz
      go_wp2
      go_ret
      exact ⟨rfl, HW3.out, HT3.out⟩
    · obtain ⟨c, hcq⟩ : ∃ c, insC room L id a = c := ⟨_, rfl⟩
      rw [hcq] at f1 hc ⊢
      simp only [if_neg hc]
      obtain ⟨xx, xy⟩ := box_rules (h).box
      have lx := box_lt (h).box
      clear h hI hi hcq
      generalize insL room L id a = L2 at *
      go_enter Tryz.func33, Tryz.ntmps33
      go_wp2_with (go_at_call 45; (with_reducible refine f1.out.mono ?_); rintro e w1 ⟨rfl, hw1, ht1⟩; have HW1 := Lib.hid (H.out.wheel hw1 ht1 (Nat.le_succ _)); have HT1 := Lib.hid (Tms.tnl g ht1); clear hw1 ht1)
      go_ret
      exact ⟨rfl, HW1.out, HT1.out⟩
  · simp only [if_neg hp]
    rw [if_neg (by decide)]
    obtain ⟨xx, xy⟩ := box_rules (h).box
    have lx := box_lt (h).box
    clear h hI hi
    go_enter Tryz.func33, Tryz.ntmps33
    by_cases h1 : p < 1
    · go_wp2
      go_ret
      exact ⟨rfl, H.out.mono (Nat.le_succ _), Tn.refl _ _⟩
    · have h2 : 4503599627370496 < p := by omega
      go_wp2
      go_ret
      exact ⟨rfl, H.out.mono (Nat.le_succ _), Tn.refl _ _⟩
set_option maxHeartbeats 4000000 in
set_option maxRecDepth 100000 in
theorem tagain_any (g : TmF) (room : Nat) (now : Int) (L : List Du) (P : List Pe) (tn : Nat) (w : World) (id a : Int) (h : Tms w g room now L P tn) (hi : I64N id) (h0 : 0 ≤ a) (h1 : a ≤ 4503599627370496) (ht : tn ≤ 1152921504606846976) :
    Calls Tryz.prog 75 #[.pointer (some ⟨g.pt, 0, none⟩), .agg #[.int .i64 id, .int .i64 a]] w fun e w' => e = .returned (.tuple #[]) ∧ Tms w' g room now (if perD P id = 0 then L else insL room L id (a + perD P id)) (if perD P id = 0 then P else if insC room L id (a + perD P id) = 0 then P else woD P id) (tn + 1) ∧ Tn g.l w w' := by
  have H := Lib.hid h
  have HI := Lib.hid hi
  have hpr := h.perRange id
  obtain ⟨M, sz, hM, hMq, hsz⟩ := h.per
  have hB : ∀ o, Below w.heap.size w (w.alloc o) := fun o => (Below.refl _ _).alloc (Nat.le_refl _) _
  have hl := fun o n => ((hM.alloc o).drewN n).look mt_per hi
  rw [hMq id] at hl
  obtain ⟨p, hp⟩ : ∃ p, perD P id = p := ⟨_, rfl⟩
  rw [hp] at hpr hl ⊢
  have HP := Lib.hid hp
  obtain ⟨xx, xy⟩ := box_rules (h).box
  have lx := box_lt (h).box
  have hne : w.heap.size ≠ g.pt := by omega
  by_cases hz : p = 0
  · subst hz
    simp only [if_true, Option.getD_none] at hl
    rw [if_pos rfl, if_pos rfl]
    clear h hi hM hMq hsz hp
    go_enter Tryz.func75, Tryz.ntmps75
    go_upto_region 1 with fail
    go_big_quiet (fail)
    go_wp2
    refine bodyPost_ret (results_none rfl _ _ _) rfl ?_
    exact ⟨rfl, (((H.out.below (hB _)).drewN _).mono (Nat.le_succ _)), ((Tn.refl _ _).alloc _).drewN _⟩
  · rw [if_neg hz] at hl
    simp only [if_neg hz]
    have f1 := Lib.hid (fun X (hX : Whl X g.f room now L tn) => whl_insert g.f room now L tn X id (a + p) hX hi ht)
    have hw' : IntKind.i64.wrap (a + p) = a + p := IntWalk.i64_in _ (by omega)
    simp only [Option.getD_some] at hl
    have HM : Hid (∀ X, Tn g.f.l (w.alloc (Obj.cells #[.int .i64 id, .int .i64 a] 140 (0, 0))) X → X.heap[w.heap.size]? = some (Obj.cells #[.int .i64 id, .int .i64 a] 140 (0, 0))) := Lib.hid (fun X hX => hX.box (heap_alloc_new _ _) (fun hm => by have := H.out.whl.lt _ hm; omega))
    by_cases hc : insC room L id (a + p) = 0
    · rw [hc] at f1 ⊢
      rw [if_pos rfl]
      clear h hi hM hMq hsz hp hpr hc
      generalize insL room L id (a + p) = L2 at *
      go_enter Tryz.func75, Tryz.ntmps75
      go_upto_region 1 with fail
      go_big_quiet (fail)
      go_upto_region 3 with fail
      refine still_tailD 10 (by kernel_rfl) (by kernel_rfl) ?_
      simp only [List.take_succ_cons, List.take_zero, List.drop_succ_cons, List.drop_zero]
      repeat still_step
      refine wpStill_nil ?_
      go_upto_region 4 with (go_at_call 45; (with_reducible refine (f1.out _ (((H.out.below (hB _)).drewN _).whl)).mono ?_); rintro e w1 ⟨rfl, hw1, ht1⟩; have HW1 := Lib.hid (((H.out.below (hB _)).drewN _).wheel hw1 ht1 (Nat.le_succ _)); have HT1 := Lib.hid ((((Tn.refl g.l w).alloc _).drewN _).trans (Tms.tnl g ht1)); clear hw1 ht1)
      go_wp2
      go_end0
      exact ⟨rfl, HW1.out, HT1.out⟩
    · have hiL : insL room L id (a + p) = L := if_neg hc
      rw [hiL] at f1 ⊢
      rw [if_neg hc]
      obtain ⟨c, hcq⟩ : ∃ c, insC room L id (a + p) = c := ⟨_, rfl⟩
      rw [hcq] at f1 hc
      clear h hi hM hMq hsz hp hpr hcq hiL
      go_enter Tryz.func75, Tryz.ntmps75
      go_upto_region 1 with fail
      go_big_quiet (fail)
      go_upto_region 3 with fail
      refine still_tailD 10 (by kernel_rfl) (by kernel_rfl) ?_
      simp only [List.take_succ_cons, List.take_zero, List.drop_succ_cons, List.drop_zero]
      repeat still_step
      refine wpStill_nil ?_
      go_upto_region 5 with (go_at_call 45; (with_reducible refine (f1.out _ (((H.out.below (hB _)).drewN _).whl)).mono ?_); rintro e w1 ⟨rfl, hw1, ht1⟩; have HX1 := Lib.hid (HM.out _ ((((Tn.refl g.f.l _).drewN _)).trans ht1)); have HW1 := Lib.hid (((H.out.below (hB _)).drewN _).wheel hw1 ht1 (Nat.le_succ _)); have HT1 := Lib.hid ((((Tn.refl g.l w).alloc _).drewN _).trans (Tms.tnl g ht1)); clear hw1 ht1)
      clear xx xy lx hl f1
      obtain ⟨xx, xy⟩ := box_rules (HW1.out).box
      have lx := box_lt (HW1.out).box
      obtain ⟨x0, x1⟩ := box_rules HX1.out
      have lx1 := box_lt HX1.out
      obtain ⟨M, sz, hM, hMq, hsz⟩ := (HW1.out.drew1).per
      obtain ⟨w3, hrun, hm3, hg3⟩ := hM.del mt_per HI.out 0
      have HW3 : Hid (Tms w3 g room now L (woD P id) (tn + 1)) := Lib.hid ((HW1.out.drew1).setMap hg3 hm3 (fun q => by
        show (if q = id then none else M q) = _
        rw [per_wo, hMq]
        by_cases hq : q = id
        · rw [if_pos hq, if_pos hq, if_pos rfl]
        · rw [if_neg hq, if_neg hq]) (by split <;> omega) (Nat.le_refl _) (fun x hx => HW1.out.long x (wo_mem.1 hx).1))
      have HT3 := Lib.hid ((HT1.out.drew).trans (Tms.grown g hg3))
      clear hm3 hg3 hM hMq hsz
      refine still_tailD 6 (by kernel_rfl) (by kernel_rfl) ?_
      simp only [List.take_succ_cons, List.take_zero, List.drop_succ_cons, List.drop_zero]
      repeat still_step
      refine wpStill_nil ?_
      go_wp2
      go_end0
      exact ⟨rfl, HW3.out, HT3.out⟩
end Go.Proofs.YtiblpnadninmbaaGreatDoor

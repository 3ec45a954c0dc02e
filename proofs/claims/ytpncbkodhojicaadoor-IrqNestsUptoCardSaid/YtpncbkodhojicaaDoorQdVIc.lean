/- vergelaw19, IrqNests: one is run. Conditions: lists that read, the de Bruijn table. -/
import Derived.Test.YtpncbkodhojicaaDoorQdQIc
import Derived.BigQuiet
namespace Go.Proofs.YtpncbkodhojicaaDoor
open Go.RowKit Go.Shelf
attribute [local go_sem] Oper.semAt_some
set_option maxHeartbeats 16000000 in
set_option maxRecDepth 100000 in
theorem nsRun (ls : List Ln) (p bl bw bt b13 : Nat) (A : Option Addr) (c : Nat) (w U : World) (k : Nat) (s : Qs) (SA : Option Addr) (sc : Nat) (left want : List Int) (tt : List Tt) (M : List Nat) (kd li N Mx : Int) (hT : Tab w) (hr : Rd w A (ls.flatMap lnc))
    (hM1 : NsM w p bl bw bt U s left want tt (s.bs.map fun b => (b.line : Int)) SA sc (b13 :: M)) (hNI : NI ls k s left want (tt.map Tt.L)) (hBx : U.heap[b13]? = some (.cells #[.int .i64 kd, .int .i64 li, .int .i64 N, .int .i64 Mx] 36 (0, 0)))
    {u1 u2 u3 u4 u6 u12 u14 u15 u16 u17 u18 u19 u20 u21 u22 u23 u24 u25 u26 u27 u28 u29 u30 u31 u32 u33 u34 u35 u36 u37 u38 u39 u40 u41 u42 u43 u44 u45 u46 u47 u48 u49 u50 u51 u52 u53 u54 u55 u56 u57 u58 u59 u60 u61 u62 u63 u64 u65 u66 u67 u68 u69 u70 u71 u72 u73 u74 u75 u76 u77 u78 u79 u80 u81 u82 u83 u84 u85 u86 u87 u88 u89 u90 u91 u92 u93 u94 u95 u96 u97 u98 u99 u100 u101 u102 u103 u104 u105 u106 u107 u108 u109 u110 u111 u112 u113 u114 u115 u116 u117 u118 u119 u120 u121 u122 u123 u124 u125 u126 u127 u128 u129 u130 u131 u132 u133 u134 u135 u136 u137 u138 u139 u140 u141 u142 u143 u144 u145 u146 u147 u148 u149 u150 u151 u152 u153 u154 u155 u156 u157 u158 u159 u160 u161 u162 u163 u164 u165 u166 u167 u168 u169 u170 u171 u172 u173 u174 u175 u176 u177 u178 u179 u180 u181 u182 u183 u184 u185 u186 u187 u188 u189 u190 u191 u192 u193 u194 u195 u196 u197 u198 u199 u200 u201 u202 u203 u204 u205 u206 u207 u208 u209 u210 u211 u212 u213 u214 u215 u216 u217 u218 u219 u220 u221 u222 u223 u224 u225 u226 u227 u228 u229 u230 u231 u232 u233 u234 u235 u236 u237 u238 u239 u240 u241 u242 u243 u244 u245 u246 u247 u248 u249 u250 u251 u252 u253 u254 u255 u256 u257 u258 u259 u260 u261 u262 u263 u264 u265 u266 u267 u268 u269 u270 u271 u272 u273 u274 u275 u276 u277 u278 u279 u280 u281 u282 u283 u284 u285 u286 u287 u288 u289 u290 u291 u292 u293 u294 u295 u296 u297 u298 u299 u300 u301 u302 : Value} (Q : Exit → Act → World → Prop)
    (hN : ∀ (v4 v22 v23 v24 v25 v26 v27 v214 v215 v216 v217 v218 v219 v220 v221 v222 v223 v224 v225 v226 v227 v228 v229 v230 v231 v232 v233 v234 v235 v236 v237 v238 v239 v240 v241 v242 v243 v244 v245 v246 v247 v248 v249 v250 v251 v252 v253 v254 v255 v256 v257 v258 v259 v260 v261 v262 v263 v264 v265 v266 v267 v268 v269 st nw : Value) (wx : World), RelN w ls p bl bw bt k st nw wx → Q .normal { tmps := #[.slice A ls.length c, u1, u2, u3, v4, .pointer (some ⟨p, 0, none⟩), u6, st, .slice (some ⟨bl, 0, none⟩) ls.length ls.length, .slice (some ⟨bw, 0, none⟩) ls.length ls.length, .slice (some ⟨bt, 0, none⟩) ls.length ls.length, nw, u12, .pointer (some ⟨b13, 0, none⟩), u14, u15, u16, u17, u18, u19, u20, u21, v22, v23, v24, v25, v26, v27, u28, u29, u30, u31, u32, u33, u34, u35, u36, u37, u38, u39, u40, u41, u42, u43, u44, u45, u46, u47, u48, u49, u50, u51, u52, u53, u54, u55, u56, u57, u58, u59, u60, u61, u62, u63, u64, u65, u66, u67, u68, u69, u70, u71, u72, u73, u74, u75, u76, u77, u78, u79, u80, u81, u82, u83, u84, u85, u86, u87, u88, u89, u90, u91, u92, u93, u94, u95, u96, u97, u98, u99, u100, u101, u102, u103, u104, u105, u106, u107, u108, u109, u110, u111, u112, u113, u114, u115, u116, u117, u118, u119, u120, u121, u122, u123, u124, u125, u126, u127, u128, u129, u130, u131, u132, u133, u134, u135, u136, u137, u138, u139, u140, u141, u142, u143, u144, u145, u146, u147, u148, u149, u150, u151, u152, u153, u154, u155, u156, u157, u158, u159, u160, u161, u162, u163, u164, u165, u166, u167, u168, u169, u170, u171, u172, u173, u174, u175, u176, u177, u178, u179, u180, u181, u182, u183, u184, u185, u186, u187, u188, u189, u190, u191, u192, u193, u194, u195, u196, u197, u198, u199, u200, u201, u202, u203, u204, u205, u206, u207, u208, u209, u210, u211, u212, u213, v214, v215, v216, v217, v218, v219, v220, v221, v222, v223, v224, v225, v226, v227, v228, v229, v230, v231, v232, v233, v234, v235, v236, v237, v238, v239, v240, v241, v242, v243, v244, v245, v246, v247, v248, v249, v250, v251, v252, v253, v254, v255, v256, v257, v258, v259, v260, v261, v262, v263, v264, v265, v266, v267, v268, v269, u270, u271, u272, u273, u274, u275, u276, u277, u278, u279, u280, u281, u282, u283, u284, u285, u286, u287, u288, u289, u290, u291, u292, u293, u294, u295, u296, u297, u298, u299, u300, u301, u302], defers := [] } wx)
    (hE : ∀ (v4 v22 v23 v24 v25 v26 v27 v214 v215 v216 v217 v218 v219 v220 v221 v222 v223 v224 v225 v226 v227 v228 v229 v230 v231 v232 v233 v234 v235 v236 v237 v238 v239 v240 v241 v242 v243 v244 v245 v246 v247 v248 v249 v250 v251 v252 v253 v254 v255 v256 v257 v258 v259 v260 v261 v262 v263 v264 v265 v266 v267 v268 v269 st nw : Value) (wx : World), RelN w ls p bl bw bt k st nw wx → Q (.exit 1) { tmps := #[.slice A ls.length c, u1, u2, u3, v4, .pointer (some ⟨p, 0, none⟩), u6, st, .slice (some ⟨bl, 0, none⟩) ls.length ls.length, .slice (some ⟨bw, 0, none⟩) ls.length ls.length, .slice (some ⟨bt, 0, none⟩) ls.length ls.length, nw, u12, .pointer (some ⟨b13, 0, none⟩), u14, u15, u16, u17, u18, u19, u20, u21, v22, v23, v24, v25, v26, v27, u28, u29, u30, u31, u32, u33, u34, u35, u36, u37, u38, u39, u40, u41, u42, u43, u44, u45, u46, u47, u48, u49, u50, u51, u52, u53, u54, u55, u56, u57, u58, u59, u60, u61, u62, u63, u64, u65, u66, u67, u68, u69, u70, u71, u72, u73, u74, u75, u76, u77, u78, u79, u80, u81, u82, u83, u84, u85, u86, u87, u88, u89, u90, u91, u92, u93, u94, u95, u96, u97, u98, u99, u100, u101, u102, u103, u104, u105, u106, u107, u108, u109, u110, u111, u112, u113, u114, u115, u116, u117, u118, u119, u120, u121, u122, u123, u124, u125, u126, u127, u128, u129, u130, u131, u132, u133, u134, u135, u136, u137, u138, u139, u140, u141, u142, u143, u144, u145, u146, u147, u148, u149, u150, u151, u152, u153, u154, u155, u156, u157, u158, u159, u160, u161, u162, u163, u164, u165, u166, u167, u168, u169, u170, u171, u172, u173, u174, u175, u176, u177, u178, u179, u180, u181, u182, u183, u184, u185, u186, u187, u188, u189, u190, u191, u192, u193, u194, u195, u196, u197, u198, u199, u200, u201, u202, u203, u204, u205, u206, u207, u208, u209, u210, u211, u212, u213, v214, v215, v216, v217, v218, v219, v220, v221, v222, v223, v224, v225, v226, v227, v228, v229, v230, v231, v232, v233, v234, v235, v236, v237, v238, v239, v240, v241, v242, v243, v244, v245, v246, v247, v248, v249, v250, v251, v252, v253, v254, v255, v256, v257, v258, v259, v260, v261, v262, v263, v264, v265, v266, v267, v268, v269, u270, u271, u272, u273, u274, u275, u276, u277, u278, u279, u280, u281, u282, u283, u284, u285, u286, u287, u288, u289, u290, u291, u292, u293, u294, u295, u296, u297, u298, u299, u300, u301, u302], defers := [] } wx)
    : Code.wp Tryd.prog (pick [1, 1, 1, 1, 1, 1, 1, 1, 1, 0, 1, 4, 5, 1, 1, 0, 4, 1, 0, 1, 4, 1, 3, 1, 3, 1, 3, 1, 2] (Tryd.f4.body.getD .skip)) Q { tmps := #[.slice A ls.length c, u1, u2, u3, u4, .pointer (some ⟨p, 0, none⟩), u6, .slice SA s.bs.length sc, .slice (some ⟨bl, 0, none⟩) ls.length ls.length, .slice (some ⟨bw, 0, none⟩) ls.length ls.length, .slice (some ⟨bt, 0, none⟩) ls.length ls.length, .int .i64 s.last, u12, .pointer (some ⟨b13, 0, none⟩), u14, u15, u16, u17, u18, u19, u20, u21, u22, u23, u24, u25, u26, u27, u28, u29, u30, u31, u32, u33, u34, u35, u36, u37, u38, u39, u40, u41, u42, u43, u44, u45, u46, u47, u48, u49, u50, u51, u52, u53, u54, u55, u56, u57, u58, u59, u60, u61, u62, u63, u64, u65, u66, u67, u68, u69, u70, u71, u72, u73, u74, u75, u76, u77, u78, u79, u80, u81, u82, u83, u84, u85, u86, u87, u88, u89, u90, u91, u92, u93, u94, u95, u96, u97, u98, u99, u100, u101, u102, u103, u104, u105, u106, u107, u108, u109, u110, u111, u112, u113, u114, u115, u116, u117, u118, u119, u120, u121, u122, u123, u124, u125, u126, u127, u128, u129, u130, u131, u132, u133, u134, u135, u136, u137, u138, u139, u140, u141, u142, u143, u144, u145, u146, u147, u148, u149, u150, u151, u152, u153, u154, u155, u156, u157, u158, u159, u160, u161, u162, u163, u164, u165, u166, u167, u168, u169, u170, u171, u172, u173, u174, u175, u176, u177, u178, u179, u180, u181, u182, u183, u184, u185, u186, u187, u188, u189, u190, u191, u192, u193, u194, u195, u196, u197, u198, u199, u200, u201, u202, u203, u204, u205, u206, u207, u208, u209, u210, u211, u212, u213, u214, u215, u216, u217, u218, u219, u220, u221, u222, u223, u224, u225, u226, u227, u228, u229, u230, u231, u232, u233, u234, u235, u236, u237, u238, u239, u240, u241, u242, u243, u244, u245, u246, u247, u248, u249, u250, u251, u252, u253, u254, u255, u256, u257, u258, u259, u260, u261, u262, u263, u264, u265, u266, u267, u268, u269, u270, u271, u272, u273, u274, u275, u276, u277, u278, u279, u280, u281, u282, u283, u284, u285, u286, u287, u288, u289, u290, u291, u292, u293, u294, u295, u296, u297, u298, u299, u300, u301, u302], defers := [] } U := by
  have HQN := Lib.hid hN
  clear hN
  have HQE := Lib.hid hE
  clear hE
  simp only [pick, Tryd.f4, Option.getD_some]
  have HT := Lib.hid hT
  have HR := Lib.hid hr
  have HM1 := Lib.hid hM1
  have HN := Lib.hid hNI
  have HBx := Lib.hid hBx
  obtain ⟨xx, xy⟩ := box_rules HBx.out
  have lx := box_lt HBx.out
  clear hT hr hM1 hNI hBx
  have fL := Lib.hid (fun X (hX : IqO w p (b13 :: M) s X) => o_left hX HN.out.qi)
  obtain ⟨n, hn⟩ : ∃ n, runN s N = n := ⟨_, rfl⟩
  have fR := Lib.hid (fun X (hX : IqO w p (b13 :: M) s X) => o_run hX HN.out.qi n)
  have HI8 := Lib.hid (fun q => HM1.out.io.drewN q)
  obtain ⟨L, hL⟩ : ∃ L, leftS s = L := ⟨_, rfl⟩
  obtain ⟨mn, hmn⟩ : ∃ mn, (if L < N then L else N) = mn := ⟨_, rfl⟩
  have hmm : (if mn < 0 then (0 : Int) else mn) = n := by
    rw [← hn, ← hmn]; unfold runN; rw [hL]; repeat' split
    all_goals omega
  by_cases hs0 : s.bs.length = 0
  · have hL0 : L = 0 := hL.symm.trans (if_pos hs0)
    have hc : runC s n = 7 := if_pos hs0
    have hd : runD s n = false := by unfold runD; rw [hc]; rfl
    have hS : runS s n = s := by unfold runS; rw [hc, if_pos (by decide)]
    have ht : runT19 s n = .agg #[.int .i64 0, .int .i64 0] := by unfold runT19; rw [hd]; rfl
    rw [hc, hd, hS, ht] at fR
    rw [hL] at fL
    rw [hL0] at fL hmn
    have z1 : ((s.bs.length : Nat) : Int) = 0 := by omega
    have z2 : (((s.bs.length : Nat) : Int) == 0) = true := by rw [z1]; rfl
    clear hL hL0 hc hd hS ht hn hs0
    have hmn' : (if 0 < N then 0 else N) = mn := hmn
    clear hmn
    go_upto_region 48 with fail
    go_big_quiet (first | (go_at_call 13; (with_reducible exact (fL.out _ (HI8.out _)).mono fun _ _ ⟨a, b⟩ => ⟨a, _, b.symm⟩)))
    go_wp2_with (go_at_call 23; (with_reducible refine (fR.out _ (HI8.out _)).mono ?_); rintro e w3 ⟨rfl, ho, hk⟩; have HM3 := Lib.hid ((HM1.out.drewN _).call ho hk); clear ho hk)
    all_goals
      apply HQE.out
      exact ⟨s, SA, sc, rfl, rfl, Lib.hid ⟨left, want, tt, _, HM3.out.below ((Below.refl _ _).alloc (Nat.le_refl _) _), HN.out.up⟩⟩
  · obtain ⟨hal, hlv, hls, a0, a1⟩ := HN.out.actl hs0
    obtain ⟨r0, r1, hc, hd, hNI, hlast, hbs⟩ := HN.out.run hs0 N
    rw [hn] at r0 r1 hc hd hNI hlast hbs
    rw [hls] at hL
    have HNI := Lib.hid hNI
    have HBs := Lib.hid hbs
    have HLa := Lib.hid hlast
    rw [hc, hd] at fR
    rw [hls] at fL
    have ht : runT19 s n = if s.act.left - n = 0 then .agg #[.int .i64 (s.act.line : Int), .int .i64 s.act.bottom] else .agg #[.int .i64 0, .int .i64 0] := by
      unfold runT19; rw [hd]
      by_cases hz : s.act.left - n = 0
      · rw [if_pos (decide_eq_true hz), if_pos hz]; rfl
      · rw [if_neg (by simpa using hz), if_neg hz]; rfl
    rw [ht] at fR
    have hsl : s.bs.length ≤ 15 := HN.out.qi.blen
    obtain ⟨m, hm⟩ : ∃ m, s.bs.length = m + 1 := ⟨s.bs.length - 1, by omega⟩
    have hav : (s.bs.map fun b => (b.line : Int)).getD m 0 = (s.act.line : Int) := by
      rw [List.getD_eq_getElem?_getD, List.getElem?_map, List.getElem?_eq_getElem (by omega)]
      show (((s.bs[m]'(by omega)).line : Nat) : Int) = _
      rw [act_last hs0]
      congr 3
      omega
    have hsc : s.bs.length ≤ sc := by
      obtain ⟨g, hg, _⟩ := own_headK HM1.out.sr (by rw [List.length_map]; omega)
      have h9 := HM1.out.sr
      rw [hg] at h9
      have h8 := own_capq h9
      rwa [List.length_map] at h8
    have HAv := Lib.hid hav
    have HM_ := Lib.hid hm
    have hll := HN.out.llen
    have z0 : (((s.bs.length : Nat) : Int) == 0) = false := beq_eq_false_iff_ne.2 (by omega)
    have y0 : ¬ ((s.bs.length : Nat) : Int) = 0 := by omega
    have z1 : wrap64 (((s.bs.length : Nat) : Int) - 1) = (m : Int) := by rw [hm, show (((m + 1 : Nat) : Int) - 1) = (m : Int) by omega]; exact Go.IntWalk.wrap64_in _ (by omega)
    have z3 : (0 : Int) ≤ (m : Int) := by omega
    have z4 : (m : Int) < ((s.bs.length : Nat) : Int) := by omega
    have z5 : (m : Int).toNat = m := by omega
    have hm15 : m + 1 ≤ 15 := by omega
    have y6 : (m : Int) ≤ (sc : Int) := by omega
    have y7 : ¬ (sc : Int) < (m : Int) := by omega
    have y8 : ¬ (m : Int) < 0 := by omega
    obtain ⟨lv, hlvx⟩ : ∃ lv, s.act.left = lv := ⟨_, rfl⟩
    obtain ⟨al, halx⟩ : ∃ al, s.act.line = al := ⟨_, rfl⟩
    obtain ⟨ab, habx⟩ : ∃ ab, s.act.bottom = ab := ⟨_, rfl⟩
    have HAl := Lib.hid halx
    rw [hlvx] at hL hlv r1 fR fL HNI HBs a0 a1
    rw [halx] at hal hlv fR HNI HAv
    rw [habx] at fR
    subst hL
    have z6 : (0 : Int) ≤ (al : Int) := by omega
    have z7 : (al : Int) < (ls.length : Int) := by omega
    have z8 : (al : Int).toNat = al := by omega
    have z9 : wrap64 (lv - n) = lv - n := Go.IntWalk.wrap64_in _ (by omega)
    have HLv := Lib.hid hlv
    have HAlt := Lib.hid (show al < left.length by omega)
    clear hn hs0 hls hlast hbs hNI hc hd ht hav hm hsc hll hlvx halx habx hlv hsl
    go_upto_region 48 with fail
    go_big_quiet (first | (go_at_call 13; (with_reducible exact (fL.out _ (HI8.out _)).mono fun _ _ ⟨a, b⟩ => ⟨a, _, b.symm⟩)))
    by_cases hz : lv - n = 0
    · rw [if_pos hz] at fR HBs
      have q1 : decide (lv - n = 0) = true := decide_eq_true hz
      have HZ := Lib.hid hz
      have q3 : wrap64 (lv - n) = 0 := by rw [hz]; exact Go.IntWalk.wrap64_in _ (by omega)
      rw [q1] at fR
      rw [hz] at HNI
      clear z9 hz q1
      go_upto_region 51 with (go_at_call 23; (with_reducible refine (fR.out _ (HI8.out _)).mono ?_); rintro e w3 ⟨rfl, ho, hk⟩; have HM3 := Lib.hid ((HM1.out.drewN _).call ho hk); clear ho hk)
      clear xx xy lx
      have hb3 : bl < w3.heap.size := HM3.out.lt bl HM3.out.ml
      have HM4 := Lib.hid (HM3.out.below ((Below.refl _ _).alloc (Nat.le_refl _) (.cells #[.int .i64 al, .int .i64 ab] 62)))
      have HO4 := Lib.hid (heap_alloc_new w3 (.cells #[.int .i64 al, .int .i64 ab] 62))
      generalize w3.alloc (.cells #[.int .i64 al, .int .i64 ab] 62) = V at *
      generalize w3.heap.size = b24 at *
      have nb1 : bl ≠ b24 := by omega
      have nb2 : b24 ≠ bl := by omega
      obtain ⟨ox, oy⟩ := box_rules HO4.out
      have ol := box_lt HO4.out
      obtain ⟨bS, rfl, c0⟩ := (own_rdK HM4.out.sr).int (i := m) (by rw [List.length_map]; have := HM_.out; omega)
      rw [HAv.out] at c0
      obtain ⟨c1, c2⟩ := HM4.out.lcell HAlt.out
      rw [HLv.out] at c1
      have HMe := Lib.hid (HM4.out.setL al 0)
      go_wp2
      apply HQN.out
      have HLn : Hid ((runS s n).bs.length = m) := Lib.hid (by
        have h9 := congrArg List.length HBs.out
        rw [List.length_map, List.length_take, List.length_map] at h9
        have := HM_.out
        omega)
      refine ⟨runS s n, some bS, sc, by rw [HLn.out], by rw [HLa.out], Lib.hid ⟨left.set al 0, want, tt, b13 :: M, ?_, HNI.out.up⟩⟩
      have h9 := HMe.out.drop (by rw [List.length_map]; have := HM_.out; omega)
      rw [List.length_map, ← HBs.out] at h9
      exact h9
    · rw [if_neg hz] at fR HBs
      have q1 : decide (lv - n = 0) = false := decide_eq_false hz
      have q2 : (lv - n == 0) = false := beq_eq_false_iff_ne.2 hz
      rw [q1] at fR
      obtain ⟨dv, hdv⟩ : ∃ dv, lv - n = dv := ⟨_, rfl⟩
      have z9' : wrap64 (lv - n) = dv := by rw [z9, hdv]
      rw [hdv] at q2 HNI
      have q4 : ¬ dv = 0 := by omega
      have q5 : decide (dv = 0) = false := decide_eq_false q4
      have HDv := Lib.hid hdv
      clear z9 hdv
      go_upto_region 51 with (go_at_call 23; (with_reducible refine (fR.out _ (HI8.out _)).mono ?_); rintro e w3 ⟨rfl, ho, hk⟩; have HM3 := Lib.hid ((HM1.out.drewN _).call ho hk); clear ho hk)
      clear xx xy lx
      have hb3 : bl < w3.heap.size := HM3.out.lt bl HM3.out.ml
      have HM4 := Lib.hid (HM3.out.below ((Below.refl _ _).alloc (Nat.le_refl _) (.cells #[.int .i64 0, .int .i64 0] 62)))
      have HO4 := Lib.hid (heap_alloc_new w3 (.cells #[.int .i64 0, .int .i64 0] 62))
      generalize w3.alloc (.cells #[.int .i64 0, .int .i64 0] 62) = V at *
      generalize w3.heap.size = b24 at *
      have nb1 : bl ≠ b24 := by omega
      have nb2 : b24 ≠ bl := by omega
      obtain ⟨ox, oy⟩ := box_rules HO4.out
      have ol := box_lt HO4.out
      obtain ⟨bS, rfl, c0⟩ := (own_rdK HM4.out.sr).int (i := m) (by rw [List.length_map]; have := HM_.out; omega)
      rw [HAv.out] at c0
      obtain ⟨c1, c2⟩ := HM4.out.lcell HAlt.out
      rw [HLv.out] at c1
      have HMe := Lib.hid (HM4.out.setL al dv)
      go_wp2
      apply HQN.out
      have HLn : Hid ((runS s n).bs.length = s.bs.length) := Lib.hid (by
        have h9 := congrArg List.length HBs.out
        rwa [List.length_map, List.length_map] at h9)
      refine ⟨runS s n, some bS, sc, by rw [HLn.out], by rw [HLa.out], Lib.hid ⟨left.set al dv, want, tt, b13 :: M, ?_, HNI.out.up⟩⟩
      rw [HBs.out, HDv.out]
      exact HMe.out
end Go.Proofs.YtpncbkodhojicaaDoor

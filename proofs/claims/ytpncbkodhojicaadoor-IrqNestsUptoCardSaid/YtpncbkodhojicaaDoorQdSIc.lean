/- vergelaw19, IrqNests: a line is taken. Conditions: lists that read, the de Bruijn table. -/
import Derived.Test.YtpncbkodhojicaaDoorQdTIc
import Derived.BigQuiet
namespace Go.Proofs.YtpncbkodhojicaaDoor
open Go.RowKit Go.Shelf
attribute [local go_sem] Oper.semAt_some
set_option maxHeartbeats 16000000 in
set_option maxRecDepth 100000 in
theorem nsTake (ls : List Ln) (p bl bw bt b13 : Nat) (A : Option Addr) (c : Nat) (w U : World) (k : Nat) (s : Qs) (SA : Option Addr) (sc : Nat) (left want : List Int) (tt : List Tt) (M : List Nat) (kd li N Mx : Int) (hT : Tab w) (hr : Rd w A (ls.flatMap lnc)) (hk60 : k < 60)
    (hM1 : NsM w p bl bw bt U s left want tt (s.bs.map fun b => (b.line : Int)) SA sc (b13 :: M)) (hNI : NI ls k s left want (tt.map Tt.L)) (hBx : U.heap[b13]? = some (.cells #[.int .i64 kd, .int .i64 li, .int .i64 N, .int .i64 Mx] 36 (0, 0)))
    {u1 u2 u3 u4 u6 u12 u14 u15 u16 u17 u18 u19 u20 u21 u22 u23 u24 u25 u26 u27 u28 u29 u30 u31 u32 u33 u34 u35 u36 u37 u38 u39 u40 u41 u42 u43 u44 u45 u46 u47 u48 u49 u50 u51 u52 u53 u54 u55 u56 u57 u58 u59 u60 u61 u62 u63 u64 u65 u66 u67 u68 u69 u70 u71 u72 u73 u74 u75 u76 u77 u78 u79 u80 u81 u82 u83 u84 u85 u86 u87 u88 u89 u90 u91 u92 u93 u94 u95 u96 u97 u98 u99 u100 u101 u102 u103 u104 u105 u106 u107 u108 u109 u110 u111 u112 u113 u114 u115 u116 u117 u118 u119 u120 u121 u122 u123 u124 u125 u126 u127 u128 u129 u130 u131 u132 u133 u134 u135 u136 u137 u138 u139 u140 u141 u142 u143 u144 u145 u146 u147 u148 u149 u150 u151 u152 u153 u154 u155 u156 u157 u158 u159 u160 u161 u162 u163 u164 u165 u166 u167 u168 u169 u170 u171 u172 u173 u174 u175 u176 u177 u178 u179 u180 u181 u182 u183 u184 u185 u186 u187 u188 u189 u190 u191 u192 u193 u194 u195 u196 u197 u198 u199 u200 u201 u202 u203 u204 u205 u206 u207 u208 u209 u210 u211 u212 u213 u214 u215 u216 u217 u218 u219 u220 u221 u222 u223 u224 u225 u226 u227 u228 u229 u230 u231 u232 u233 u234 u235 u236 u237 u238 u239 u240 u241 u242 u243 u244 u245 u246 u247 u248 u249 u250 u251 u252 u253 u254 u255 u256 u257 u258 u259 u260 u261 u262 u263 u264 u265 u266 u267 u268 u269 u270 u271 u272 u273 u274 u275 u276 u277 u278 u279 u280 u281 u282 u283 u284 u285 u286 u287 u288 u289 u290 u291 u292 u293 u294 u295 u296 u297 u298 u299 u300 u301 u302 : Value} (Q : Exit → Act → World → Prop)
    (hN : ∀ (v4 v14 v15 v16 v17 v18 v20 v102 v103 v104 v105 v106 v107 v108 v109 v110 v111 v112 v113 v114 v115 v116 v117 v118 v119 v120 v121 v122 v123 v124 v125 v126 v127 v128 v129 v130 v131 v132 v133 v134 v135 v136 v137 v138 v139 v140 v141 v142 v143 v144 v145 v146 v147 v148 v149 v150 v151 v152 v153 v154 v155 v156 v157 v158 v159 v160 v161 v162 v163 v164 v165 v166 v167 v168 v169 v170 v171 v172 v173 v174 v175 v176 v177 v178 v179 v180 v181 v182 v183 v184 v185 v186 v187 v188 v189 v190 v191 v192 v193 v194 v195 v196 v197 st nw : Value) (wx : World), RelN w ls p bl bw bt k st nw wx → Q .normal { tmps := #[.slice A ls.length c, u1, u2, u3, v4, .pointer (some ⟨p, 0, none⟩), u6, st, .slice (some ⟨bl, 0, none⟩) ls.length ls.length, .slice (some ⟨bw, 0, none⟩) ls.length ls.length, .slice (some ⟨bt, 0, none⟩) ls.length ls.length, nw, u12, .pointer (some ⟨b13, 0, none⟩), v14, v15, v16, v17, v18, u19, v20, u21, u22, u23, u24, u25, u26, u27, u28, u29, u30, u31, u32, u33, u34, u35, u36, u37, u38, u39, u40, u41, u42, u43, u44, u45, u46, u47, u48, u49, u50, u51, u52, u53, u54, u55, u56, u57, u58, u59, u60, u61, u62, u63, u64, u65, u66, u67, u68, u69, u70, u71, u72, u73, u74, u75, u76, u77, u78, u79, u80, u81, u82, u83, u84, u85, u86, u87, u88, u89, u90, u91, u92, u93, u94, u95, u96, u97, u98, u99, u100, u101, v102, v103, v104, v105, v106, v107, v108, v109, v110, v111, v112, v113, v114, v115, v116, v117, v118, v119, v120, v121, v122, v123, v124, v125, v126, v127, v128, v129, v130, v131, v132, v133, v134, v135, v136, v137, v138, v139, v140, v141, v142, v143, v144, v145, v146, v147, v148, v149, v150, v151, v152, v153, v154, v155, v156, v157, v158, v159, v160, v161, v162, v163, v164, v165, v166, v167, v168, v169, v170, v171, v172, v173, v174, v175, v176, v177, v178, v179, v180, v181, v182, v183, v184, v185, v186, v187, v188, v189, v190, v191, v192, v193, v194, v195, v196, v197, u198, u199, u200, u201, u202, u203, u204, u205, u206, u207, u208, u209, u210, u211, u212, u213, u214, u215, u216, u217, u218, u219, u220, u221, u222, u223, u224, u225, u226, u227, u228, u229, u230, u231, u232, u233, u234, u235, u236, u237, u238, u239, u240, u241, u242, u243, u244, u245, u246, u247, u248, u249, u250, u251, u252, u253, u254, u255, u256, u257, u258, u259, u260, u261, u262, u263, u264, u265, u266, u267, u268, u269, u270, u271, u272, u273, u274, u275, u276, u277, u278, u279, u280, u281, u282, u283, u284, u285, u286, u287, u288, u289, u290, u291, u292, u293, u294, u295, u296, u297, u298, u299, u300, u301, u302], defers := [] } wx)
    (hE : ∀ (v4 v14 v15 v16 v17 v18 v20 v102 v103 v104 v105 v106 v107 v108 v109 v110 v111 v112 v113 v114 v115 v116 v117 v118 v119 v120 v121 v122 v123 v124 v125 v126 v127 v128 v129 v130 v131 v132 v133 v134 v135 v136 v137 v138 v139 v140 v141 v142 v143 v144 v145 v146 v147 v148 v149 v150 v151 v152 v153 v154 v155 v156 v157 v158 v159 v160 v161 v162 v163 v164 v165 v166 v167 v168 v169 v170 v171 v172 v173 v174 v175 v176 v177 v178 v179 v180 v181 v182 v183 v184 v185 v186 v187 v188 v189 v190 v191 v192 v193 v194 v195 v196 v197 st nw : Value) (wx : World), RelN w ls p bl bw bt k st nw wx → Q (.exit 1) { tmps := #[.slice A ls.length c, u1, u2, u3, v4, .pointer (some ⟨p, 0, none⟩), u6, st, .slice (some ⟨bl, 0, none⟩) ls.length ls.length, .slice (some ⟨bw, 0, none⟩) ls.length ls.length, .slice (some ⟨bt, 0, none⟩) ls.length ls.length, nw, u12, .pointer (some ⟨b13, 0, none⟩), v14, v15, v16, v17, v18, u19, v20, u21, u22, u23, u24, u25, u26, u27, u28, u29, u30, u31, u32, u33, u34, u35, u36, u37, u38, u39, u40, u41, u42, u43, u44, u45, u46, u47, u48, u49, u50, u51, u52, u53, u54, u55, u56, u57, u58, u59, u60, u61, u62, u63, u64, u65, u66, u67, u68, u69, u70, u71, u72, u73, u74, u75, u76, u77, u78, u79, u80, u81, u82, u83, u84, u85, u86, u87, u88, u89, u90, u91, u92, u93, u94, u95, u96, u97, u98, u99, u100, u101, v102, v103, v104, v105, v106, v107, v108, v109, v110, v111, v112, v113, v114, v115, v116, v117, v118, v119, v120, v121, v122, v123, v124, v125, v126, v127, v128, v129, v130, v131, v132, v133, v134, v135, v136, v137, v138, v139, v140, v141, v142, v143, v144, v145, v146, v147, v148, v149, v150, v151, v152, v153, v154, v155, v156, v157, v158, v159, v160, v161, v162, v163, v164, v165, v166, v167, v168, v169, v170, v171, v172, v173, v174, v175, v176, v177, v178, v179, v180, v181, v182, v183, v184, v185, v186, v187, v188, v189, v190, v191, v192, v193, v194, v195, v196, v197, u198, u199, u200, u201, u202, u203, u204, u205, u206, u207, u208, u209, u210, u211, u212, u213, u214, u215, u216, u217, u218, u219, u220, u221, u222, u223, u224, u225, u226, u227, u228, u229, u230, u231, u232, u233, u234, u235, u236, u237, u238, u239, u240, u241, u242, u243, u244, u245, u246, u247, u248, u249, u250, u251, u252, u253, u254, u255, u256, u257, u258, u259, u260, u261, u262, u263, u264, u265, u266, u267, u268, u269, u270, u271, u272, u273, u274, u275, u276, u277, u278, u279, u280, u281, u282, u283, u284, u285, u286, u287, u288, u289, u290, u291, u292, u293, u294, u295, u296, u297, u298, u299, u300, u301, u302], defers := [] } wx)
    : Code.wp Tryd.prog (pick [1, 1, 1, 1, 1, 1, 1, 1, 1, 0, 1, 4, 5, 1, 1, 0, 4, 1, 0, 1, 4, 1, 3, 1, 2] (Tryd.f4.body.getD .skip)) Q { tmps := #[.slice A ls.length c, u1, u2, u3, u4, .pointer (some ⟨p, 0, none⟩), u6, .slice SA s.bs.length sc, .slice (some ⟨bl, 0, none⟩) ls.length ls.length, .slice (some ⟨bw, 0, none⟩) ls.length ls.length, .slice (some ⟨bt, 0, none⟩) ls.length ls.length, .int .i64 s.last, u12, .pointer (some ⟨b13, 0, none⟩), u14, u15, u16, u17, u18, u19, u20, u21, u22, u23, u24, u25, u26, u27, u28, u29, u30, u31, u32, u33, u34, u35, u36, u37, u38, u39, u40, u41, u42, u43, u44, u45, u46, u47, u48, u49, u50, u51, u52, u53, u54, u55, u56, u57, u58, u59, u60, u61, u62, u63, u64, u65, u66, u67, u68, u69, u70, u71, u72, u73, u74, u75, u76, u77, u78, u79, u80, u81, u82, u83, u84, u85, u86, u87, u88, u89, u90, u91, u92, u93, u94, u95, u96, u97, u98, u99, u100, u101, u102, u103, u104, u105, u106, u107, u108, u109, u110, u111, u112, u113, u114, u115, u116, u117, u118, u119, u120, u121, u122, u123, u124, u125, u126, u127, u128, u129, u130, u131, u132, u133, u134, u135, u136, u137, u138, u139, u140, u141, u142, u143, u144, u145, u146, u147, u148, u149, u150, u151, u152, u153, u154, u155, u156, u157, u158, u159, u160, u161, u162, u163, u164, u165, u166, u167, u168, u169, u170, u171, u172, u173, u174, u175, u176, u177, u178, u179, u180, u181, u182, u183, u184, u185, u186, u187, u188, u189, u190, u191, u192, u193, u194, u195, u196, u197, u198, u199, u200, u201, u202, u203, u204, u205, u206, u207, u208, u209, u210, u211, u212, u213, u214, u215, u216, u217, u218, u219, u220, u221, u222, u223, u224, u225, u226, u227, u228, u229, u230, u231, u232, u233, u234, u235, u236, u237, u238, u239, u240, u241, u242, u243, u244, u245, u246, u247, u248, u249, u250, u251, u252, u253, u254, u255, u256, u257, u258, u259, u260, u261, u262, u263, u264, u265, u266, u267, u268, u269, u270, u271, u272, u273, u274, u275, u276, u277, u278, u279, u280, u281, u282, u283, u284, u285, u286, u287, u288, u289, u290, u291, u292, u293, u294, u295, u296, u297, u298, u299, u300, u301, u302], defers := [] } U := by
  have HQN := Lib.hid hN
  clear hN
  have HQE := Lib.hid hE
  clear hE
  simp only [pick, Tryd.f4, Option.getD_some]
  have HT := Lib.hid hT
  have HR := Lib.hid hr
  have HM1 := Lib.hid hM1
  have HN := Lib.hid hNI
  have HBx := Lib.hid hBx
  obtain ⟨xx, xy⟩ := box_rules HBx.out
  have lx := box_lt HBx.out
  clear hT hr hM1 hNI hBx
  have hlb := HN.out.qi.last
  have fB := Lib.hid (fun X => by_any s.last N X hlb.1 hlb.2)
  obtain ⟨t, ht⟩ : ∃ t, byS s.last N = t := ⟨_, rfl⟩
  rw [ht] at fB
  have fT := Lib.hid (fun X (hX : IqO w p (b13 :: M) s X) (hb : Below w.heap.size w X) => o_take hX HN.out.qi (by omega) (tab_base HT.out hb) HT.out.lt t)
  clear hlb ht
  cases hc : timeC s t with
  | false =>
    rw [takeNo hc] at fT
    clear hc
    go_upto_region 23 with (go_at_call 20; (with_reducible refine (fB.out _).mono ?_); rintro e _ ⟨rfl, rfl⟩)
    go_upto_region 24 with (go_at_call 21; (with_reducible refine (fT.out _ HM1.out.io HM1.out.lo).mono ?_); rintro e w3 ⟨rfl, ho, hk⟩; have HM3 := Lib.hid (HM1.out.call ho hk); clear ho hk)
    go_wp2
    apply HQE.out
    exact ⟨s, SA, sc, rfl, rfl, Lib.hid ⟨left, want, tt, _, HM3.out, HN.out.up⟩⟩
  | true =>
    have q0 : (takeA s t).2.2.2 = 0 := by rw [takeA_on hc]
    cases hb : (takeA s t).2.2.1 with
    | false =>
      obtain ⟨q1, q2, q3⟩ := HN.out.take0 hc hb
      rw [hb, q0] at fT
      have Q1 := Lib.hid q1
      have Q2 := Lib.hid q2
      have Q3 := Lib.hid q3
      clear hc hb q0 q1 q2 q3
      generalize (takeA s t).2.1 = nv at *
      generalize (takeA s t).1 = s2 at *
      go_upto_region 23 with (go_at_call 20; (with_reducible refine (fB.out _).mono ?_); rintro e _ ⟨rfl, rfl⟩)
      go_upto_region 24 with (go_at_call 21; (with_reducible refine (fT.out _ HM1.out.io HM1.out.lo).mono ?_); rintro e w3 ⟨rfl, ho, hk⟩; have HM3 := Lib.hid (HM1.out.call ho hk); clear ho hk)
      go_wp2
      apply HQE.out
      exact ⟨s2, SA, sc, by rw [Q3.out], by rw [Q2.out], Lib.hid ⟨left, want, tt, _, by rw [Q3.out]; exact HM3.out, Q1.out⟩⟩
    | true =>
      obtain ⟨i, hi, q1, q2, q3, q4, q5, q6⟩ := HN.out.take1 hc hb
      have ht0 : 0 ≤ t ∧ t ≤ 4503599627370496 ∧ s.last ≤ t := of_decide_eq_true hc
      have HT0 : Hid (0 ≤ t ∧ t ≤ 4503599627370496) := Lib.hid ⟨ht0.1, ht0.2.1⟩
      rw [hb, q0, q1] at fT
      have Q2 := Lib.hid q2
      have Q3 := Lib.hid q3
      have Q4 := Lib.hid q4
      have Q5 := Lib.hid q5
      have Q6 := Lib.hid q6
      clear hc hb q0 q1 q2 q3 q4 q5 q6 ht0
      generalize (takeA s t).1 = s2 at *
      go_upto_region 23 with (go_at_call 20; (with_reducible refine (fB.out _).mono ?_); rintro e _ ⟨rfl, rfl⟩)
      go_upto_region 24 with (go_at_call 21; (with_reducible refine (fT.out _ HM1.out.io HM1.out.lo).mono ?_); rintro e w3 ⟨rfl, ho, hk⟩; have HM3 := Lib.hid (HM1.out.call ho hk); clear ho hk)
      clear xx xy lx fB fT
      have hsl : s.bs.length ≤ 15 := HN.out.qi.blen
      have HI := Lib.hid hi
      have HA := HR.out
      obtain ⟨aL, xL, rfl, hxL, p0, _, _, _⟩ := (HR.out.below HM3.out.lo).lnAt hi
      rw [show ls.getD i ln0 = xL from hxL] at Q2
      obtain ⟨prio, top, many, window⟩ := xL
      dsimp only at p0 Q2
      have b1 : (0 : Int) ≤ (i : Int) := by omega
      have b2 : (i : Int) < (ls.length : Int) := by omega
      have b3 : ¬ (i : Int) < 0 := by omega
      have b4 : ¬ (ls.length : Int) ≤ (i : Int) := by omega
      have b5 : decide ((i : Int) < 0) = false := decide_eq_false b3
      have b6 : decide ((ls.length : Int) ≤ (i : Int)) = false := decide_eq_false b4
      have b7 : (i : Int).toNat = i := by omega
      clear hxL HA
      go_upto_region 27 with fail
      by_cases hs0 : s.bs.length = 0
      · have z1 : ((s.bs.length : Nat) : Int) = 0 := by omega
        have z2 : decide ((0 : Int) < ((s.bs.length : Nat) : Int)) = false := decide_eq_false (by omega)
        have hsn : Hid (s.bs.length = 0) := Lib.hid hs0
        clear hs0
        obtain ⟨sl, hsl9⟩ : ∃ sl, s.bs.length = sl := ⟨_, rfl⟩
        have HSl := Lib.hid hsl9
        rw [hsl9] at z1 z2
        rw [hsl9]
        clear hsl9
        go_quiet (fail)
        go_upto_if 148 with fail
        go_step
        go_step
        apply_assumption
        rw [← HSl.out]
        exact calm_le (nsTimes ls p bl bw bt b13 (some aL) c w _ k s s2 SA sc left want tt (b13 :: M) t i (s.ln i).bottom HR.out hk60 (HM3.out.drewN _) HN.out HI.out HT0.out Q3.out Q4.out Q5.out Q6.out Q (by intros; apply HQN.out; assumption))
      · obtain ⟨hal, _, _, _, _⟩ := HN.out.actl hs0
        have hpr := Q2.out hs0
        obtain ⟨a2, x2, hA2, hx2, r0, _, _, _⟩ := (HR.out.below HM3.out.lo).lnAt hal
        injection hA2 with hA2
        subst hA2
        rw [show ls.getD s.act.line ln0 = x2 from hx2] at hpr
        obtain ⟨m, hm⟩ : ∃ m, s.bs.length = m + 1 := ⟨s.bs.length - 1, by omega⟩
        obtain ⟨bS, rfl, c0⟩ := (own_rdK HM3.out.sr).int (i := m) (by rw [List.length_map]; omega)
        have hav : (s.bs.map fun b => (b.line : Int)).getD m 0 = (s.act.line : Int) := by
          rw [List.getD_eq_getElem?_getD, List.getElem?_map, List.getElem?_eq_getElem (by omega)]
          show (((s.bs[m]'(by omega)).line : Nat) : Int) = _
          rw [act_last hs0]
          congr 3
          omega
        rw [hav] at c0
        have z0 : decide ((0 : Int) < ((s.bs.length : Nat) : Int)) = true := decide_eq_true (by omega)
        have y0 : decide (0 < s.bs.length) = true := decide_eq_true (by omega)
        have y1 : 0 < s.bs.length := by omega
        have z1 : wrap64 (((s.bs.length : Nat) : Int) - 1) = (m : Int) := by rw [hm, show (((m + 1 : Nat) : Int) - 1) = (m : Int) by omega]; exact Go.IntWalk.wrap64_in _ (by omega)
        have z2 : IntKind.i64.wrap (((s.bs.length : Nat) : Int) - 1) = (m : Int) := by rw [hm, show (((m + 1 : Nat) : Int) - 1) = (m : Int) by omega]; exact IntWalk.i64_in _ (by omega)
        have z3 : (0 : Int) ≤ (m : Int) := by omega
        have z4 : (m : Int) < ((s.bs.length : Nat) : Int) := by omega
        have z5 : (m : Int).toNat = m := by omega
        generalize s.act.line = al at *
        have z6 : (0 : Int) ≤ (al : Int) := by omega
        have z7 : (al : Int) < (ls.length : Int) := by omega
        have z8 : (al : Int).toNat = al := by omega
        have z9 : decide (prio ≤ x2.prio) = false := decide_eq_false (by omega)
        clear hav hx2 hpr hs0 hm
        obtain ⟨sl, hsl9⟩ : ∃ sl, s.bs.length = sl := ⟨_, rfl⟩
        have HSl := Lib.hid hsl9
        rw [hsl9] at z0 y0 y1 z1 z2 z4
        rw [hsl9]
        clear hsl9
        go_big_quiet (fail)
        go_upto_if 148 with fail
        go_step
        go_step
        apply_assumption
        rw [← HSl.out]
        exact calm_le (nsTimes ls p bl bw bt b13 (some aL) c w _ k s s2 (some bS) sc left want tt (b13 :: M) t i (s.ln i).bottom HR.out hk60 (HM3.out.drewN _) HN.out HI.out HT0.out Q3.out Q4.out Q5.out Q6.out Q (by intros; apply HQN.out; assumption))
end Go.Proofs.YtpncbkodhojicaaDoor

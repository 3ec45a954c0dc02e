/- vergelaw19, IrqNests: a round. Conditions: lists that read, the de Bruijn table. -/
import Derived.Test.YtpncbkodhojicaaDoorQdWIc
import Derived.Test.YtpncbkodhojicaaDoorQdXIc
import Derived.Deep.CutBlock
namespace Go.Proofs.YtpncbkodhojicaaDoor
open Go.RowKit Go.Shelf
attribute [local go_sem] Oper.semAt_some
set_option maxHeartbeats 16000000 in
set_option maxRecDepth 100000 in
theorem nsBlk (ls : List Ln) (l : List Aq) (p bl bw bt : Nat) (A : Option Addr) (c : Nat) (A' : Option Addr) (c' : Nat) (w U : World) (k : Nat) (s : Qs) (SA : Option Addr) (sc : Nat) (hT : Tab w) (hr : Rd w A (ls.flatMap lnc)) (hr2 : Rd w A' (l.flatMap aqc)) (hk60 : k < 60) (hlt : k < l.length) (hI : NsI w ls p bl bw bt U k s SA sc)
    {u1 u2 u3 u4 u6 u12 u13 u14 u15 u16 u17 u18 u19 u20 u21 u22 u23 u24 u25 u26 u27 u28 u29 u30 u31 u32 u33 u34 u35 u36 u37 u38 u39 u40 u41 u42 u43 u44 u45 u46 u47 u48 u49 u50 u51 u52 u53 u54 u55 u56 u57 u58 u59 u60 u61 u62 u63 u65 u67 u68 u69 u70 u71 u72 u73 u74 u75 u76 u77 u78 u79 u80 u81 u82 u83 u84 u85 u86 u87 u88 u89 u90 u91 u92 u93 u94 u95 u96 u97 u98 u99 u100 u101 u102 u103 u104 u105 u106 u107 u108 u109 u110 u111 u112 u113 u114 u115 u116 u117 u118 u119 u120 u121 u122 u123 u124 u125 u126 u127 u128 u129 u130 u131 u132 u133 u134 u135 u136 u137 u138 u139 u140 u141 u142 u143 u144 u145 u146 u147 u148 u149 u150 u151 u152 u153 u154 u155 u156 u157 u158 u159 u160 u161 u162 u163 u164 u165 u166 u167 u168 u169 u170 u171 u172 u173 u174 u175 u176 u177 u178 u179 u180 u181 u182 u183 u184 u185 u186 u187 u188 u189 u190 u191 u192 u193 u194 u195 u196 u197 u198 u199 u200 u201 u202 u203 u204 u205 u206 u207 u208 u209 u210 u211 u212 u213 u214 u215 u216 u217 u218 u219 u220 u221 u222 u223 u224 u225 u226 u227 u228 u229 u230 u231 u232 u233 u234 u235 u236 u237 u238 u239 u240 u241 u242 u243 u244 u245 u246 u247 u248 u249 u250 u251 u252 u253 u254 u255 u256 u257 u258 u259 u260 u261 u262 u263 u264 u265 u266 u267 u268 u269 u270 u271 u272 u273 u274 u275 u276 u277 u278 u279 u280 u281 u282 u283 u284 u285 u286 u287 u288 u289 u290 u291 u292 u293 u294 u295 u296 u297 u298 u299 u300 u301 u302 : Value} (Q : Exit → Act → World → Prop)
    (hN : ∀ (v4 v13 v14 v15 v16 v17 v18 v20 v21 v22 v23 v24 v25 v26 v27 v28 v29 v30 v68 v69 v70 v71 v72 v73 v74 v75 v76 v77 v78 v79 v80 v81 v82 v83 v84 v85 v86 v87 v88 v89 v90 v91 v92 v93 v94 v95 v96 v97 v98 v99 v100 v101 v102 v103 v104 v105 v106 v107 v108 v109 v110 v111 v112 v113 v114 v115 v116 v117 v118 v119 v120 v121 v122 v123 v124 v125 v126 v127 v128 v129 v130 v131 v132 v133 v134 v135 v136 v137 v138 v139 v140 v141 v142 v143 v144 v145 v146 v147 v148 v149 v150 v151 v152 v153 v154 v155 v156 v157 v158 v159 v160 v161 v162 v163 v164 v165 v166 v167 v168 v169 v170 v171 v172 v173 v174 v175 v176 v177 v178 v179 v180 v181 v182 v183 v184 v185 v186 v187 v188 v189 v190 v191 v192 v193 v194 v195 v196 v197 v198 v199 v200 v201 v202 v203 v204 v205 v206 v207 v208 v209 v210 v211 v212 v213 v214 v215 v216 v217 v218 v219 v220 v221 v222 v223 v224 v225 v226 v227 v228 v229 v230 v231 v232 v233 v234 v235 v236 v237 v238 v239 v240 v241 v242 v243 v244 v245 v246 v247 v248 v249 v250 v251 v252 v253 v254 v255 v256 v257 v258 v259 v260 v261 v262 v263 v264 v265 v266 v267 v268 v269 v270 v271 v272 v273 v274 v275 v276 v277 v278 v279 v280 v281 v282 v283 v284 v285 v286 v287 v288 v289 v290 v291 v292 v293 v294 v295 v296 v297 v298 v299 v300 v301 st nw : Value) (wx : World), RelN w ls p bl bw bt k st nw wx → Q .normal { tmps := #[.slice A ls.length c, u1, u2, u3, v4, .pointer (some ⟨p, 0, none⟩), u6, st, .slice (some ⟨bl, 0, none⟩) ls.length ls.length, .slice (some ⟨bw, 0, none⟩) ls.length ls.length, .slice (some ⟨bt, 0, none⟩) ls.length ls.length, nw, u12, v13, v14, v15, v16, v17, v18, u19, v20, v21, v22, v23, v24, v25, v26, v27, v28, v29, v30, u31, u32, u33, u34, u35, u36, u37, u38, u39, u40, u41, u42, u43, u44, u45, u46, u47, u48, u49, u50, u51, u52, u53, u54, u55, u56, u57, u58, u59, u60, u61, u62, u63, .slice A' l.length c', u65, .int .i64 k, u67, v68, v69, v70, v71, v72, v73, v74, v75, v76, v77, v78, v79, v80, v81, v82, v83, v84, v85, v86, v87, v88, v89, v90, v91, v92, v93, v94, v95, v96, v97, v98, v99, v100, v101, v102, v103, v104, v105, v106, v107, v108, v109, v110, v111, v112, v113, v114, v115, v116, v117, v118, v119, v120, v121, v122, v123, v124, v125, v126, v127, v128, v129, v130, v131, v132, v133, v134, v135, v136, v137, v138, v139, v140, v141, v142, v143, v144, v145, v146, v147, v148, v149, v150, v151, v152, v153, v154, v155, v156, v157, v158, v159, v160, v161, v162, v163, v164, v165, v166, v167, v168, v169, v170, v171, v172, v173, v174, v175, v176, v177, v178, v179, v180, v181, v182, v183, v184, v185, v186, v187, v188, v189, v190, v191, v192, v193, v194, v195, v196, v197, v198, v199, v200, v201, v202, v203, v204, v205, v206, v207, v208, v209, v210, v211, v212, v213, v214, v215, v216, v217, v218, v219, v220, v221, v222, v223, v224, v225, v226, v227, v228, v229, v230, v231, v232, v233, v234, v235, v236, v237, v238, v239, v240, v241, v242, v243, v244, v245, v246, v247, v248, v249, v250, v251, v252, v253, v254, v255, v256, v257, v258, v259, v260, v261, v262, v263, v264, v265, v266, v267, v268, v269, v270, v271, v272, v273, v274, v275, v276, v277, v278, v279, v280, v281, v282, v283, v284, v285, v286, v287, v288, v289, v290, v291, v292, v293, v294, v295, v296, v297, v298, v299, v300, v301, u302], defers := [] } wx)
    : Code.wp Tryd.prog (pick [1, 1, 1, 1, 1, 1, 1, 1, 1, 0, 1, 4, 5, 1, 1, 0] (Tryd.f4.body.getD .skip)) Q { tmps := #[.slice A ls.length c, u1, u2, u3, u4, .pointer (some ⟨p, 0, none⟩), u6, .slice SA s.bs.length sc, .slice (some ⟨bl, 0, none⟩) ls.length ls.length, .slice (some ⟨bw, 0, none⟩) ls.length ls.length, .slice (some ⟨bt, 0, none⟩) ls.length ls.length, .int .i64 s.last, u12, u13, u14, u15, u16, u17, u18, u19, u20, u21, u22, u23, u24, u25, u26, u27, u28, u29, u30, u31, u32, u33, u34, u35, u36, u37, u38, u39, u40, u41, u42, u43, u44, u45, u46, u47, u48, u49, u50, u51, u52, u53, u54, u55, u56, u57, u58, u59, u60, u61, u62, u63, .slice A' l.length c', u65, .int .i64 k, u67, u68, u69, u70, u71, u72, u73, u74, u75, u76, u77, u78, u79, u80, u81, u82, u83, u84, u85, u86, u87, u88, u89, u90, u91, u92, u93, u94, u95, u96, u97, u98, u99, u100, u101, u102, u103, u104, u105, u106, u107, u108, u109, u110, u111, u112, u113, u114, u115, u116, u117, u118, u119, u120, u121, u122, u123, u124, u125, u126, u127, u128, u129, u130, u131, u132, u133, u134, u135, u136, u137, u138, u139, u140, u141, u142, u143, u144, u145, u146, u147, u148, u149, u150, u151, u152, u153, u154, u155, u156, u157, u158, u159, u160, u161, u162, u163, u164, u165, u166, u167, u168, u169, u170, u171, u172, u173, u174, u175, u176, u177, u178, u179, u180, u181, u182, u183, u184, u185, u186, u187, u188, u189, u190, u191, u192, u193, u194, u195, u196, u197, u198, u199, u200, u201, u202, u203, u204, u205, u206, u207, u208, u209, u210, u211, u212, u213, u214, u215, u216, u217, u218, u219, u220, u221, u222, u223, u224, u225, u226, u227, u228, u229, u230, u231, u232, u233, u234, u235, u236, u237, u238, u239, u240, u241, u242, u243, u244, u245, u246, u247, u248, u249, u250, u251, u252, u253, u254, u255, u256, u257, u258, u259, u260, u261, u262, u263, u264, u265, u266, u267, u268, u269, u270, u271, u272, u273, u274, u275, u276, u277, u278, u279, u280, u281, u282, u283, u284, u285, u286, u287, u288, u289, u290, u291, u292, u293, u294, u295, u296, u297, u298, u299, u300, u301, u302], defers := [] } U := by
  have HQN := Lib.hid hN
  clear hN
  simp only [pick, Tryd.f4, Option.getD_some]
  have HLo := Lib.hid hI.choose_spec.choose_spec.choose_spec.choose_spec.1.lo
  obtain ⟨a0, x, rfl, hx, g0, g1, g2, g3⟩ := (hr2.below HLo.out).aqAt hlt
  obtain ⟨kd, li, N, Mx⟩ := x
  dsimp only at *
  have HT := Lib.hid hT
  have HR := Lib.hid hr
  have HIj := Lib.hid hI
  clear hx hT hr hr2 hI
  go_upto_region 14 with fail
  refine name_world fun V hV => ?_
  obtain ⟨left, want, tt, M, hM, hN⟩ := HIj.out
  have HM1 := Lib.hid (hM.box (.cells #[.int .i64 kd, .int .i64 li, .int .i64 N, .int .i64 Mx] 36))
  have HBx := Lib.hid (heap_alloc_new U (.cells #[.int .i64 kd, .int .i64 li, .int .i64 N, .int .i64 Mx] 36))
  rw [← hV] at HM1 HBx
  have HN := Lib.hid hN
  clear hV hM hN g0 g1 g2 g3 HIj
  generalize U.heap.size = b13 at *
  obtain ⟨xx, xy⟩ := box_rules HBx.out
  have lx := box_lt HBx.out
  go_upto_block 2 with fail
  go_step
  refine nsArms ls p bl bw bt b13 A c w _ k s SA sc left want tt M kd li N Mx HT.out HR.out hk60 HM1.out HN.out HBx.out _ ?_ ?_
  · intros
    rename_i hrel
    obtain ⟨s', SA', sc', rfl, rfl, HI'⟩ := hrel
    simp only [Exit.inBlock, Exit.then]
    apply_assumption
    refine nsRest ls p bl bw bt b13 A c w _ k s' SA' sc' HI'.out _ ?_
    intros
    simp only [Exit.inBlock]
    apply HQN.out
    assumption
  · intros
    simp only [Exit.inBlock, Exit.then]
    apply HQN.out
    assumption
end Go.Proofs.YtpncbkodhojicaaDoor

/- vergelaw19, IrqNests: a raise. Conditions: lists that read, the de Bruijn table. -/
import Derived.Test.YtpncbkodhojicaaDoorQdQIc
namespace Go.Proofs.YtpncbkodhojicaaDoor
open Go.RowKit Go.Shelf
attribute [local go_sem] Oper.semAt_some
set_option maxHeartbeats 16000000 in
set_option maxRecDepth 100000 in
theorem nsRaise (ls : List Ln) (p bl bw bt b13 : Nat) (A : Option Addr) (c : Nat) (w U : World) (k : Nat) (s : Qs) (SA : Option Addr) (sc : Nat) (left want : List Int) (tt : List Tt) (M : List Nat) (kd li N Mx : Int) (hT : Tab w) (hr : Rd w A (ls.flatMap lnc)) (hk60 : k < 60)
    (hM1 : NsM w p bl bw bt U s left want tt (s.bs.map fun b => (b.line : Int)) SA sc (b13 :: M)) (hNI : NI ls k s left want (tt.map Tt.L)) (hBx : U.heap[b13]? = some (.cells #[.int .i64 kd, .int .i64 li, .int .i64 N, .int .i64 Mx] 36 (0, 0)))
    {u1 u2 u3 u4 u6 u12 u14 u15 u16 u17 u18 u19 u20 u21 u22 u23 u24 u25 u26 u27 u28 u29 u30 u31 u32 u33 u34 u35 u36 u37 u38 u39 u40 u41 u42 u43 u44 u45 u46 u47 u48 u49 u50 u51 u52 u53 u54 u55 u56 u57 u58 u59 u60 u61 u62 u63 u64 u65 u66 u67 u68 u69 u70 u71 u72 u73 u74 u75 u76 u77 u78 u79 u80 u81 u82 u83 u84 u85 u86 u87 u88 u89 u90 u91 u92 u93 u94 u95 u96 u97 u98 u99 u100 u101 u102 u103 u104 u105 u106 u107 u108 u109 u110 u111 u112 u113 u114 u115 u116 u117 u118 u119 u120 u121 u122 u123 u124 u125 u126 u127 u128 u129 u130 u131 u132 u133 u134 u135 u136 u137 u138 u139 u140 u141 u142 u143 u144 u145 u146 u147 u148 u149 u150 u151 u152 u153 u154 u155 u156 u157 u158 u159 u160 u161 u162 u163 u164 u165 u166 u167 u168 u169 u170 u171 u172 u173 u174 u175 u176 u177 u178 u179 u180 u181 u182 u183 u184 u185 u186 u187 u188 u189 u190 u191 u192 u193 u194 u195 u196 u197 u198 u199 u200 u201 u202 u203 u204 u205 u206 u207 u208 u209 u210 u211 u212 u213 u214 u215 u216 u217 u218 u219 u220 u221 u222 u223 u224 u225 u226 u227 u228 u229 u230 u231 u232 u233 u234 u235 u236 u237 u238 u239 u240 u241 u242 u243 u244 u245 u246 u247 u248 u249 u250 u251 u252 u253 u254 u255 u256 u257 u258 u259 u260 u261 u262 u263 u264 u265 u266 u267 u268 u269 u270 u271 u272 u273 u274 u275 u276 u277 u278 u279 u280 u281 u282 u283 u284 u285 u286 u287 u288 u289 u290 u291 u292 u293 u294 u295 u296 u297 u298 u299 u300 u301 u302 : Value} (Q : Exit → Act → World → Prop)
    (hN : ∀ (v4 v74 v75 v76 v77 v78 v79 v80 v81 v82 v83 v84 v85 v86 v87 v88 v89 v90 v91 v92 v93 v94 v95 v96 v97 v98 st nw : Value) (wx : World), RelN w ls p bl bw bt k st nw wx → Q .normal { tmps := #[.slice A ls.length c, u1, u2, u3, v4, .pointer (some ⟨p, 0, none⟩), u6, st, .slice (some ⟨bl, 0, none⟩) ls.length ls.length, .slice (some ⟨bw, 0, none⟩) ls.length ls.length, .slice (some ⟨bt, 0, none⟩) ls.length ls.length, nw, u12, .pointer (some ⟨b13, 0, none⟩), u14, u15, u16, u17, u18, u19, u20, u21, u22, u23, u24, u25, u26, u27, u28, u29, u30, u31, u32, u33, u34, u35, u36, u37, u38, u39, u40, u41, u42, u43, u44, u45, u46, u47, u48, u49, u50, u51, u52, u53, u54, u55, u56, u57, u58, u59, u60, u61, u62, u63, u64, u65, u66, u67, u68, u69, u70, u71, u72, u73, v74, v75, v76, v77, v78, v79, v80, v81, v82, v83, v84, v85, v86, v87, v88, v89, v90, v91, v92, v93, v94, v95, v96, v97, v98, u99, u100, u101, u102, u103, u104, u105, u106, u107, u108, u109, u110, u111, u112, u113, u114, u115, u116, u117, u118, u119, u120, u121, u122, u123, u124, u125, u126, u127, u128, u129, u130, u131, u132, u133, u134, u135, u136, u137, u138, u139, u140, u141, u142, u143, u144, u145, u146, u147, u148, u149, u150, u151, u152, u153, u154, u155, u156, u157, u158, u159, u160, u161, u162, u163, u164, u165, u166, u167, u168, u169, u170, u171, u172, u173, u174, u175, u176, u177, u178, u179, u180, u181, u182, u183, u184, u185, u186, u187, u188, u189, u190, u191, u192, u193, u194, u195, u196, u197, u198, u199, u200, u201, u202, u203, u204, u205, u206, u207, u208, u209, u210, u211, u212, u213, u214, u215, u216, u217, u218, u219, u220, u221, u222, u223, u224, u225, u226, u227, u228, u229, u230, u231, u232, u233, u234, u235, u236, u237, u238, u239, u240, u241, u242, u243, u244, u245, u246, u247, u248, u249, u250, u251, u252, u253, u254, u255, u256, u257, u258, u259, u260, u261, u262, u263, u264, u265, u266, u267, u268, u269, u270, u271, u272, u273, u274, u275, u276, u277, u278, u279, u280, u281, u282, u283, u284, u285, u286, u287, u288, u289, u290, u291, u292, u293, u294, u295, u296, u297, u298, u299, u300, u301, u302], defers := [] } wx)
    : Code.wp Tryd.prog (pick [1, 1, 1, 1, 1, 1, 1, 1, 1, 0, 1, 4, 5, 1, 1, 0, 4, 1, 0, 1, 4, 1, 2] (Tryd.f4.body.getD .skip)) Q { tmps := #[.slice A ls.length c, u1, u2, u3, u4, .pointer (some ⟨p, 0, none⟩), u6, .slice SA s.bs.length sc, .slice (some ⟨bl, 0, none⟩) ls.length ls.length, .slice (some ⟨bw, 0, none⟩) ls.length ls.length, .slice (some ⟨bt, 0, none⟩) ls.length ls.length, .int .i64 s.last, u12, .pointer (some ⟨b13, 0, none⟩), u14, u15, u16, u17, u18, u19, u20, u21, u22, u23, u24, u25, u26, u27, u28, u29, u30, u31, u32, u33, u34, u35, u36, u37, u38, u39, u40, u41, u42, u43, u44, u45, u46, u47, u48, u49, u50, u51, u52, u53, u54, u55, u56, u57, u58, u59, u60, u61, u62, u63, u64, u65, u66, u67, u68, u69, u70, u71, u72, u73, u74, u75, u76, u77, u78, u79, u80, u81, u82, u83, u84, u85, u86, u87, u88, u89, u90, u91, u92, u93, u94, u95, u96, u97, u98, u99, u100, u101, u102, u103, u104, u105, u106, u107, u108, u109, u110, u111, u112, u113, u114, u115, u116, u117, u118, u119, u120, u121, u122, u123, u124, u125, u126, u127, u128, u129, u130, u131, u132, u133, u134, u135, u136, u137, u138, u139, u140, u141, u142, u143, u144, u145, u146, u147, u148, u149, u150, u151, u152, u153, u154, u155, u156, u157, u158, u159, u160, u161, u162, u163, u164, u165, u166, u167, u168, u169, u170, u171, u172, u173, u174, u175, u176, u177, u178, u179, u180, u181, u182, u183, u184, u185, u186, u187, u188, u189, u190, u191, u192, u193, u194, u195, u196, u197, u198, u199, u200, u201, u202, u203, u204, u205, u206, u207, u208, u209, u210, u211, u212, u213, u214, u215, u216, u217, u218, u219, u220, u221, u222, u223, u224, u225, u226, u227, u228, u229, u230, u231, u232, u233, u234, u235, u236, u237, u238, u239, u240, u241, u242, u243, u244, u245, u246, u247, u248, u249, u250, u251, u252, u253, u254, u255, u256, u257, u258, u259, u260, u261, u262, u263, u264, u265, u266, u267, u268, u269, u270, u271, u272, u273, u274, u275, u276, u277, u278, u279, u280, u281, u282, u283, u284, u285, u286, u287, u288, u289, u290, u291, u292, u293, u294, u295, u296, u297, u298, u299, u300, u301, u302], defers := [] } U := by
  have HQN := Lib.hid hN
  clear hN
  simp only [pick, Tryd.f4, Option.getD_some]
  have HT := Lib.hid hT
  have HR := Lib.hid hr
  have HM1 := Lib.hid hM1
  have HN := Lib.hid hNI
  have HBx := Lib.hid hBx
  obtain ⟨xx, xy⟩ := box_rules HBx.out
  have lx := box_lt HBx.out
  clear hT hr hM1 hNI hBx
  have fR := Lib.hid (fun X (hX : IqO w p (b13 :: M) s X) => o_raise hX HN.out.qi (by omega) li N Mx)
  by_cases hrc : raiseC s li N Mx = 0
  · obtain ⟨⟨hl0, hl1⟩, hN'⟩ := HN.out.raise hrc
    have HN' := Lib.hid hN'
    have hwl := HN.out.wlen
    have HBs : Hid ((raiseS s li N Mx).bs = s.bs ∧ (raiseS s li N Mx).last = s.last) := Lib.hid (raise_bs s li N Mx)
    rw [hrc] at fR
    generalize raiseS s li N Mx = s2 at *
    obtain ⟨i, rfl⟩ := Int.eq_ofNat_of_zero_le hl0
    rw [Int.toNat_natCast] at HN'
    have z1 : decide ((i : Int) < 0) = false := decide_eq_false (by omega)
    have z2 : decide ((ls.length : Int) ≤ (i : Int)) = false := decide_eq_false (by omega)
    have z3 : ¬ (i : Int) < 0 := by omega
    have z4 : ¬ (ls.length : Int) ≤ (i : Int) := by omega
    clear hN' hrc
    go_upto_if 82 with (go_at_call 19; (with_reducible refine (fR.out _ HM1.out.io).mono ?_); rintro e w3 ⟨rfl, ho, hk⟩; have HM3 := Lib.hid (HM1.out.call ho hk); have HBx3 := Lib.hid (hk.box HBx.out (by simp)); clear ho hk)
    clear xx xy lx
    obtain ⟨xx, xy⟩ := box_rules HBx3.out
    have lx := box_lt HBx3.out
    obtain ⟨c1, c2⟩ := HM3.out.wcell (i := i) (by omega)
    go_wp2
    apply HQN.out
    exact ⟨s2, SA, sc, by rw [HBs.out.1], by rw [HBs.out.2], Lib.hid ⟨left, want.set i N, tt, _, by rw [HBs.out.1]; exact HM3.out.setW i N, HN'.out⟩⟩
  · have HN' := Lib.hid (HN.out.raiseNo hrc)
    have HBs : Hid ((raiseS s li N Mx).bs = s.bs ∧ (raiseS s li N Mx).last = s.last) := Lib.hid (raise_bs s li N Mx)
    have z1 : (raiseC s li N Mx == 0) = false := beq_eq_false_iff_ne.2 hrc
    clear hrc
    generalize raiseS s li N Mx = s2 at *
    generalize raiseC s li N Mx = rc at *
    go_upto_if 82 with (go_at_call 19; (with_reducible refine (fR.out _ HM1.out.io).mono ?_); rintro e w3 ⟨rfl, ho, hk⟩; have HM3 := Lib.hid (HM1.out.call ho hk); clear ho hk)
    go_wp2
    apply HQN.out
    exact ⟨s2, SA, sc, by rw [HBs.out.1], by rw [HBs.out.2], Lib.hid ⟨left, want, tt, _, by rw [HBs.out.1]; exact HM3.out, HN'.out⟩⟩
end Go.Proofs.YtpncbkodhojicaaDoor

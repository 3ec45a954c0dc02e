/- vergelaw19, IrqNests: lines are unmasked. Conditions: lists that read, the de Bruijn table. -/
import Derived.Test.YtpncbkodhojicaaDoorQdQIc
namespace Go.Proofs.YtpncbkodhojicaaDoor
open Go.RowKit Go.Shelf
attribute [local go_sem] Oper.semAt_some
set_option maxHeartbeats 16000000 in
set_option maxRecDepth 100000 in
theorem nsUnmask (ls : List Ln) (p bl bw bt b13 : Nat) (A : Option Addr) (c : Nat) (w U : World) (k : Nat) (s : Qs) (SA : Option Addr) (sc : Nat) (left want : List Int) (tt : List Tt) (M : List Nat) (kd li N Mx : Int) (hT : Tab w) (hr : Rd w A (ls.flatMap lnc))
    (hM1 : NsM w p bl bw bt U s left want tt (s.bs.map fun b => (b.line : Int)) SA sc (b13 :: M)) (hNI : NI ls k s left want (tt.map Tt.L)) (hBx : U.heap[b13]? = some (.cells #[.int .i64 kd, .int .i64 li, .int .i64 N, .int .i64 Mx] 36 (0, 0)))
    {u1 u2 u3 u4 u6 u12 u14 u15 u16 u17 u18 u19 u20 u21 u22 u23 u24 u25 u26 u27 u28 u29 u30 u31 u32 u33 u34 u35 u36 u37 u38 u39 u40 u41 u42 u43 u44 u45 u46 u47 u48 u49 u50 u51 u52 u53 u54 u55 u56 u57 u58 u59 u60 u61 u62 u63 u64 u65 u66 u67 u68 u69 u70 u71 u72 u73 u74 u75 u76 u77 u78 u79 u80 u81 u82 u83 u84 u85 u86 u87 u88 u89 u90 u91 u92 u93 u94 u95 u96 u97 u98 u99 u100 u101 u102 u103 u104 u105 u106 u107 u108 u109 u110 u111 u112 u113 u114 u115 u116 u117 u118 u119 u120 u121 u122 u123 u124 u125 u126 u127 u128 u129 u130 u131 u132 u133 u134 u135 u136 u137 u138 u139 u140 u141 u142 u143 u144 u145 u146 u147 u148 u149 u150 u151 u152 u153 u154 u155 u156 u157 u158 u159 u160 u161 u162 u163 u164 u165 u166 u167 u168 u169 u170 u171 u172 u173 u174 u175 u176 u177 u178 u179 u180 u181 u182 u183 u184 u185 u186 u187 u188 u189 u190 u191 u192 u193 u194 u195 u196 u197 u198 u199 u200 u201 u202 u203 u204 u205 u206 u207 u208 u209 u210 u211 u212 u213 u214 u215 u216 u217 u218 u219 u220 u221 u222 u223 u224 u225 u226 u227 u228 u229 u230 u231 u232 u233 u234 u235 u236 u237 u238 u239 u240 u241 u242 u243 u244 u245 u246 u247 u248 u249 u250 u251 u252 u253 u254 u255 u256 u257 u258 u259 u260 u261 u262 u263 u264 u265 u266 u267 u268 u269 u270 u271 u272 u273 u274 u275 u276 u277 u278 u279 u280 u281 u282 u283 u284 u285 u286 u287 u288 u289 u290 u291 u292 u293 u294 u295 u296 u297 u298 u299 u300 u301 u302 : Value} (Q : Exit → Act → World → Prop)
    (hN : ∀ (v21 v201 v202 v203 v204 v205 v206 v207 v208 v209 v210 st nw : Value) (wx : World), RelN w ls p bl bw bt k st nw wx → Q .normal { tmps := #[.slice A ls.length c, u1, u2, u3, u4, .pointer (some ⟨p, 0, none⟩), u6, st, .slice (some ⟨bl, 0, none⟩) ls.length ls.length, .slice (some ⟨bw, 0, none⟩) ls.length ls.length, .slice (some ⟨bt, 0, none⟩) ls.length ls.length, nw, u12, .pointer (some ⟨b13, 0, none⟩), u14, u15, u16, u17, u18, u19, u20, v21, u22, u23, u24, u25, u26, u27, u28, u29, u30, u31, u32, u33, u34, u35, u36, u37, u38, u39, u40, u41, u42, u43, u44, u45, u46, u47, u48, u49, u50, u51, u52, u53, u54, u55, u56, u57, u58, u59, u60, u61, u62, u63, u64, u65, u66, u67, u68, u69, u70, u71, u72, u73, u74, u75, u76, u77, u78, u79, u80, u81, u82, u83, u84, u85, u86, u87, u88, u89, u90, u91, u92, u93, u94, u95, u96, u97, u98, u99, u100, u101, u102, u103, u104, u105, u106, u107, u108, u109, u110, u111, u112, u113, u114, u115, u116, u117, u118, u119, u120, u121, u122, u123, u124, u125, u126, u127, u128, u129, u130, u131, u132, u133, u134, u135, u136, u137, u138, u139, u140, u141, u142, u143, u144, u145, u146, u147, u148, u149, u150, u151, u152, u153, u154, u155, u156, u157, u158, u159, u160, u161, u162, u163, u164, u165, u166, u167, u168, u169, u170, u171, u172, u173, u174, u175, u176, u177, u178, u179, u180, u181, u182, u183, u184, u185, u186, u187, u188, u189, u190, u191, u192, u193, u194, u195, u196, u197, u198, u199, u200, v201, v202, v203, v204, v205, v206, v207, v208, v209, v210, u211, u212, u213, u214, u215, u216, u217, u218, u219, u220, u221, u222, u223, u224, u225, u226, u227, u228, u229, u230, u231, u232, u233, u234, u235, u236, u237, u238, u239, u240, u241, u242, u243, u244, u245, u246, u247, u248, u249, u250, u251, u252, u253, u254, u255, u256, u257, u258, u259, u260, u261, u262, u263, u264, u265, u266, u267, u268, u269, u270, u271, u272, u273, u274, u275, u276, u277, u278, u279, u280, u281, u282, u283, u284, u285, u286, u287, u288, u289, u290, u291, u292, u293, u294, u295, u296, u297, u298, u299, u300, u301, u302], defers := [] } wx)
    : Code.wp Tryd.prog (pick [1, 1, 1, 1, 1, 1, 1, 1, 1, 0, 1, 4, 5, 1, 1, 0, 4, 1, 0, 1, 4, 1, 3, 1, 3, 1, 2] (Tryd.f4.body.getD .skip)) Q { tmps := #[.slice A ls.length c, u1, u2, u3, u4, .pointer (some ⟨p, 0, none⟩), u6, .slice SA s.bs.length sc, .slice (some ⟨bl, 0, none⟩) ls.length ls.length, .slice (some ⟨bw, 0, none⟩) ls.length ls.length, .slice (some ⟨bt, 0, none⟩) ls.length ls.length, .int .i64 s.last, u12, .pointer (some ⟨b13, 0, none⟩), u14, u15, u16, u17, u18, u19, u20, u21, u22, u23, u24, u25, u26, u27, u28, u29, u30, u31, u32, u33, u34, u35, u36, u37, u38, u39, u40, u41, u42, u43, u44, u45, u46, u47, u48, u49, u50, u51, u52, u53, u54, u55, u56, u57, u58, u59, u60, u61, u62, u63, u64, u65, u66, u67, u68, u69, u70, u71, u72, u73, u74, u75, u76, u77, u78, u79, u80, u81, u82, u83, u84, u85, u86, u87, u88, u89, u90, u91, u92, u93, u94, u95, u96, u97, u98, u99, u100, u101, u102, u103, u104, u105, u106, u107, u108, u109, u110, u111, u112, u113, u114, u115, u116, u117, u118, u119, u120, u121, u122, u123, u124, u125, u126, u127, u128, u129, u130, u131, u132, u133, u134, u135, u136, u137, u138, u139, u140, u141, u142, u143, u144, u145, u146, u147, u148, u149, u150, u151, u152, u153, u154, u155, u156, u157, u158, u159, u160, u161, u162, u163, u164, u165, u166, u167, u168, u169, u170, u171, u172, u173, u174, u175, u176, u177, u178, u179, u180, u181, u182, u183, u184, u185, u186, u187, u188, u189, u190, u191, u192, u193, u194, u195, u196, u197, u198, u199, u200, u201, u202, u203, u204, u205, u206, u207, u208, u209, u210, u211, u212, u213, u214, u215, u216, u217, u218, u219, u220, u221, u222, u223, u224, u225, u226, u227, u228, u229, u230, u231, u232, u233, u234, u235, u236, u237, u238, u239, u240, u241, u242, u243, u244, u245, u246, u247, u248, u249, u250, u251, u252, u253, u254, u255, u256, u257, u258, u259, u260, u261, u262, u263, u264, u265, u266, u267, u268, u269, u270, u271, u272, u273, u274, u275, u276, u277, u278, u279, u280, u281, u282, u283, u284, u285, u286, u287, u288, u289, u290, u291, u292, u293, u294, u295, u296, u297, u298, u299, u300, u301, u302], defers := [] } U := by
  have HQN := Lib.hid hN
  clear hN
  simp only [pick, Tryd.f4, Option.getD_some]
  have HT := Lib.hid hT
  have HR := Lib.hid hr
  have HM1 := Lib.hid hM1
  have HN := Lib.hid hNI
  have HBx := Lib.hid hBx
  obtain ⟨xx, xy⟩ := box_rules HBx.out
  have lx := box_lt HBx.out
  clear hT hr hM1 hNI hBx
  have hlb := HN.out.qi.last
  have fB := Lib.hid (fun X => by_any s.last N X hlb.1 hlb.2)
  obtain ⟨t, ht⟩ : ∃ t, byS s.last N = t := ⟨_, rfl⟩
  have htc := timeC_byS hlb.1 hlb.2 N ht
  rw [ht] at fB
  clear hlb ht
  rcases htc with rfl | hc
  · go_upto_if 206 with (go_at_call 20; (with_reducible refine (fB.out _).mono ?_); rintro e _ ⟨rfl, rfl⟩)
    go_wp2
    apply HQN.out
    exact ⟨s, SA, sc, rfl, rfl, Lib.hid ⟨left, want, tt, _, HM1.out, HN.out.up⟩⟩
  · have ht0 : 0 ≤ t ∧ t ≤ 4503599627370496 ∧ s.last ≤ t := of_decide_eq_true hc
    have hU : unmA s t = (unmaskS s t, (freed s t s.ls.length).map (fun i : Nat => (i : Int)), 0) := by unfold unmA; rw [if_pos hc]
    have fT := Lib.hid (fun X (hX : IqO w p (b13 :: M) s X) (hb : Below w.heap.size w X) => o_unmask hX HN.out.qi (tab_base HT.out hb) HT.out.lt t)
    rw [hU] at fT
    have HN' := Lib.hid (HN.out.unmask hc)
    have HBs : Hid ((unmaskS s t).bs = s.bs ∧ (unmaskS s t).last = t) := Lib.hid ⟨rfl, rfl⟩
    dsimp only at fT
    generalize unmaskS s t = s2 at *
    generalize (freed s t s.ls.length).map (fun i : Nat => (i : Int)) = out at *
    have z1 : decide (0 ≤ t) = true := decide_eq_true ht0.1
    have z2 : 0 ≤ t := ht0.1
    clear hc hU ht0
    go_upto_if 206 with (go_at_call 20; (with_reducible refine (fB.out _).mono ?_); rintro e _ ⟨rfl, rfl⟩)
    go_wp2_with (go_at_call 22; (with_reducible refine (fT.out _ HM1.out.io HM1.out.lo).mono ?_); rintro e w3 ⟨OA, oc, rfl, hr3, hn3, ho, hk⟩; have HM3 := Lib.hid (HM1.out.call (ho.weak (fun b hb => List.mem_append_right _ hb)) hk); clear ho hk hr3 hn3)
    apply HQN.out
    exact ⟨s2, SA, sc, by rw [HBs.out.1], by rw [HBs.out.2], Lib.hid ⟨left, want, tt, _, by rw [HBs.out.1]; exact HM3.out, HN'.out⟩⟩
end Go.Proofs.YtpncbkodhojicaaDoor

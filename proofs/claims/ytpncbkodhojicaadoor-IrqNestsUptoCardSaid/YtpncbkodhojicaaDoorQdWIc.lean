/- vergelaw19, IrqNests: what a round ends with. Conditions: lists that read, the de Bruijn table. -/
import Derived.Test.YtpncbkodhojicaaDoorQdQIc
import Derived.BigQuiet
namespace Go.Proofs.YtpncbkodhojicaaDoor
open Go.RowKit Go.Shelf
attribute [local go_sem] Oper.semAt_some
set_option maxHeartbeats 16000000 in
set_option maxRecDepth 100000 in
theorem nsRest (ls : List Ln) (p bl bw bt b13 : Nat) (A : Option Addr) (c : Nat) (w U : World) (k : Nat) (s : Qs) (SA : Option Addr) (sc : Nat) (hI : NsI w ls p bl bw bt U (k + 1) s SA sc)
    {u1 u2 u3 u4 u6 u12 u14 u15 u16 u17 u18 u19 u20 u21 u22 u23 u24 u25 u26 u27 u28 u29 u30 u31 u32 u33 u34 u35 u36 u37 u38 u39 u40 u41 u42 u43 u44 u45 u46 u47 u48 u49 u50 u51 u52 u53 u54 u55 u56 u57 u58 u59 u60 u61 u62 u63 u64 u65 u66 u67 u68 u69 u70 u71 u72 u73 u74 u75 u76 u77 u78 u79 u80 u81 u82 u83 u84 u85 u86 u87 u88 u89 u90 u91 u92 u93 u94 u95 u96 u97 u98 u99 u100 u101 u102 u103 u104 u105 u106 u107 u108 u109 u110 u111 u112 u113 u114 u115 u116 u117 u118 u119 u120 u121 u122 u123 u124 u125 u126 u127 u128 u129 u130 u131 u132 u133 u134 u135 u136 u137 u138 u139 u140 u141 u142 u143 u144 u145 u146 u147 u148 u149 u150 u151 u152 u153 u154 u155 u156 u157 u158 u159 u160 u161 u162 u163 u164 u165 u166 u167 u168 u169 u170 u171 u172 u173 u174 u175 u176 u177 u178 u179 u180 u181 u182 u183 u184 u185 u186 u187 u188 u189 u190 u191 u192 u193 u194 u195 u196 u197 u198 u199 u200 u201 u202 u203 u204 u205 u206 u207 u208 u209 u210 u211 u212 u213 u214 u215 u216 u217 u218 u219 u220 u221 u222 u223 u224 u225 u226 u227 u228 u229 u230 u231 u232 u233 u234 u235 u236 u237 u238 u239 u240 u241 u242 u243 u244 u245 u246 u247 u248 u249 u250 u251 u252 u253 u254 u255 u256 u257 u258 u259 u260 u261 u262 u263 u264 u265 u266 u267 u268 u269 u270 u271 u272 u273 u274 u275 u276 u277 u278 u279 u280 u281 u282 u283 u284 u285 u286 u287 u288 u289 u290 u291 u292 u293 u294 u295 u296 u297 u298 u299 u300 u301 u302 : Value} (Q : Exit → Act → World → Prop)
    (hN : ∀ (v4 v28 v29 v30 v270 v271 v272 v273 v274 v275 v276 v277 v278 v279 v280 v281 v282 v283 v284 v285 v286 v287 v288 v289 v290 v291 v292 v293 v294 v295 v296 v297 v298 v299 v300 v301 st nw : Value) (wx : World), RelN w ls p bl bw bt k st nw wx → Q .normal { tmps := #[.slice A ls.length c, u1, u2, u3, v4, .pointer (some ⟨p, 0, none⟩), u6, st, .slice (some ⟨bl, 0, none⟩) ls.length ls.length, .slice (some ⟨bw, 0, none⟩) ls.length ls.length, .slice (some ⟨bt, 0, none⟩) ls.length ls.length, nw, u12, .pointer (some ⟨b13, 0, none⟩), u14, u15, u16, u17, u18, u19, u20, u21, u22, u23, u24, u25, u26, u27, v28, v29, v30, u31, u32, u33, u34, u35, u36, u37, u38, u39, u40, u41, u42, u43, u44, u45, u46, u47, u48, u49, u50, u51, u52, u53, u54, u55, u56, u57, u58, u59, u60, u61, u62, u63, u64, u65, u66, u67, u68, u69, u70, u71, u72, u73, u74, u75, u76, u77, u78, u79, u80, u81, u82, u83, u84, u85, u86, u87, u88, u89, u90, u91, u92, u93, u94, u95, u96, u97, u98, u99, u100, u101, u102, u103, u104, u105, u106, u107, u108, u109, u110, u111, u112, u113, u114, u115, u116, u117, u118, u119, u120, u121, u122, u123, u124, u125, u126, u127, u128, u129, u130, u131, u132, u133, u134, u135, u136, u137, u138, u139, u140, u141, u142, u143, u144, u145, u146, u147, u148, u149, u150, u151, u152, u153, u154, u155, u156, u157, u158, u159, u160, u161, u162, u163, u164, u165, u166, u167, u168, u169, u170, u171, u172, u173, u174, u175, u176, u177, u178, u179, u180, u181, u182, u183, u184, u185, u186, u187, u188, u189, u190, u191, u192, u193, u194, u195, u196, u197, u198, u199, u200, u201, u202, u203, u204, u205, u206, u207, u208, u209, u210, u211, u212, u213, u214, u215, u216, u217, u218, u219, u220, u221, u222, u223, u224, u225, u226, u227, u228, u229, u230, u231, u232, u233, u234, u235, u236, u237, u238, u239, u240, u241, u242, u243, u244, u245, u246, u247, u248, u249, u250, u251, u252, u253, u254, u255, u256, u257, u258, u259, u260, u261, u262, u263, u264, u265, u266, u267, u268, u269, v270, v271, v272, v273, v274, v275, v276, v277, v278, v279, v280, v281, v282, v283, v284, v285, v286, v287, v288, v289, v290, v291, v292, v293, v294, v295, v296, v297, v298, v299, v300, v301, u302], defers := [] } wx)
    : Code.wp Tryd.prog (pick [1, 1, 1, 1, 1, 1, 1, 1, 1, 0, 1, 4, 5, 1, 1, 0, 4, 1, 1] (Tryd.f4.body.getD .skip)) Q { tmps := #[.slice A ls.length c, u1, u2, u3, u4, .pointer (some ⟨p, 0, none⟩), u6, .slice SA s.bs.length sc, .slice (some ⟨bl, 0, none⟩) ls.length ls.length, .slice (some ⟨bw, 0, none⟩) ls.length ls.length, .slice (some ⟨bt, 0, none⟩) ls.length ls.length, .int .i64 s.last, u12, .pointer (some ⟨b13, 0, none⟩), u14, u15, u16, u17, u18, u19, u20, u21, u22, u23, u24, u25, u26, u27, u28, u29, u30, u31, u32, u33, u34, u35, u36, u37, u38, u39, u40, u41, u42, u43, u44, u45, u46, u47, u48, u49, u50, u51, u52, u53, u54, u55, u56, u57, u58, u59, u60, u61, u62, u63, u64, u65, u66, u67, u68, u69, u70, u71, u72, u73, u74, u75, u76, u77, u78, u79, u80, u81, u82, u83, u84, u85, u86, u87, u88, u89, u90, u91, u92, u93, u94, u95, u96, u97, u98, u99, u100, u101, u102, u103, u104, u105, u106, u107, u108, u109, u110, u111, u112, u113, u114, u115, u116, u117, u118, u119, u120, u121, u122, u123, u124, u125, u126, u127, u128, u129, u130, u131, u132, u133, u134, u135, u136, u137, u138, u139, u140, u141, u142, u143, u144, u145, u146, u147, u148, u149, u150, u151, u152, u153, u154, u155, u156, u157, u158, u159, u160, u161, u162, u163, u164, u165, u166, u167, u168, u169, u170, u171, u172, u173, u174, u175, u176, u177, u178, u179, u180, u181, u182, u183, u184, u185, u186, u187, u188, u189, u190, u191, u192, u193, u194, u195, u196, u197, u198, u199, u200, u201, u202, u203, u204, u205, u206, u207, u208, u209, u210, u211, u212, u213, u214, u215, u216, u217, u218, u219, u220, u221, u222, u223, u224, u225, u226, u227, u228, u229, u230, u231, u232, u233, u234, u235, u236, u237, u238, u239, u240, u241, u242, u243, u244, u245, u246, u247, u248, u249, u250, u251, u252, u253, u254, u255, u256, u257, u258, u259, u260, u261, u262, u263, u264, u265, u266, u267, u268, u269, u270, u271, u272, u273, u274, u275, u276, u277, u278, u279, u280, u281, u282, u283, u284, u285, u286, u287, u288, u289, u290, u291, u292, u293, u294, u295, u296, u297, u298, u299, u300, u301, u302], defers := [] } U := by
  have HQN := Lib.hid hN
  clear hN
  simp only [pick, Tryd.f4, Option.getD_some]
  obtain ⟨left, want, tt, M, hM, hN⟩ := hI
  have HM := Lib.hid hM
  have HN := Lib.hid hN
  have fA := Lib.hid (fun X (hX : IqO w p M s X) => o_active hX HN.out.qi)
  have fL := Lib.hid (fun X (hX : IqO w p M s X) => o_left hX HN.out.qi)
  have HI8 := Lib.hid (fun q => HM.out.io.drewN q)
  clear hM hN
  by_cases hs0 : s.bs.length = 0
  · have hA : actA s = (0, false) := if_pos hs0
    rw [hA] at fA
    have z1 : ((s.bs.length : Nat) : Int) = 0 := by omega
    have z2 : decide ((0 : Int) < ((s.bs.length : Nat) : Int)) = false := decide_eq_false (by omega)
    obtain ⟨sl, hsl9⟩ : ∃ sl, s.bs.length = sl := ⟨_, rfl⟩
    have HSl := Lib.hid hsl9
    have HS0 := Lib.hid hs0
    rw [hsl9] at z1 z2
    rw [hsl9]
    have z3 : sl = 0 := by omega
    clear hsl9 hs0 hA
    go_upto_region 62 with (go_at_call 9; (with_reducible refine (fA.out _ HM.out.io).mono ?_); rintro e _ ⟨rfl, rfl⟩)
    go_big_quiet (first | (go_at_call 13; (with_reducible exact (fL.out _ (HI8.out _)).mono fun _ _ ⟨a, b⟩ => ⟨a, _, b.symm⟩)))
    go_wp2
    apply HQN.out
    exact ⟨s, SA, sc, by rw [HS0.out], rfl, Lib.hid ⟨left, want, tt, M, HM.out.drewN _, HN.out⟩⟩
  · have hA : actA s = ((s.act.line : Int), true) := if_neg hs0
    rw [hA] at fA
    obtain ⟨hal, hlv, hls, _, _⟩ := HN.out.actl hs0
    rw [hls] at fL
    have hsl : s.bs.length ≤ 15 := HN.out.qi.blen
    have hll := HN.out.llen
    obtain ⟨m, hm⟩ : ∃ m, s.bs.length = m + 1 := ⟨s.bs.length - 1, by omega⟩
    obtain ⟨bS, rfl, c0⟩ := (own_rdK HM.out.sr).int (i := m) (by rw [List.length_map]; omega)
    have hav : (s.bs.map fun b => (b.line : Int)).getD m 0 = (s.act.line : Int) := by
      rw [List.getD_eq_getElem?_getD, List.getElem?_map, List.getElem?_eq_getElem (by omega)]
      show (((s.bs[m]'(by omega)).line : Nat) : Int) = _
      rw [act_last hs0]
      congr 3
      omega
    rw [hav] at c0
    obtain ⟨c1, c2⟩ := HM.out.lcell (i := s.act.line) (by omega)
    rw [hlv] at c1
    have z0 : decide ((0 : Int) < ((s.bs.length : Nat) : Int)) = true := decide_eq_true (by omega)
    have y0 : decide (0 < s.bs.length) = true := decide_eq_true (by omega)
    have y1 : 0 < s.bs.length := by omega
    have z1 : wrap64 (((s.bs.length : Nat) : Int) - 1) = (m : Int) := by rw [hm, show (((m + 1 : Nat) : Int) - 1) = (m : Int) by omega]; exact Go.IntWalk.wrap64_in _ (by omega)
    have z2 : IntKind.i64.wrap (((s.bs.length : Nat) : Int) - 1) = (m : Int) := by rw [hm, show (((m + 1 : Nat) : Int) - 1) = (m : Int) by omega]; exact IntWalk.i64_in _ (by omega)
    have z3 : (0 : Int) ≤ (m : Int) := by omega
    have z4 : (m : Int) < ((s.bs.length : Nat) : Int) := by omega
    have z5 : (m : Int).toNat = m := by omega
    generalize s.act.left = lv at *
    generalize s.act.line = al at *
    have z6 : (0 : Int) ≤ (al : Int) := by omega
    have z7 : (al : Int) < (ls.length : Int) := by omega
    have z8 : (al : Int).toNat = al := by omega
    clear hav hA hs0 hm hlv hls hll hal
    obtain ⟨sl, hsl9⟩ : ∃ sl, s.bs.length = sl := ⟨_, rfl⟩
    have HSl := Lib.hid hsl9
    rw [hsl9] at z0 y0 y1 z1 z2 z4
    rw [hsl9]
    clear hsl9
    go_upto_region 62 with (go_at_call 9; (with_reducible refine (fA.out _ HM.out.io).mono ?_); rintro e _ ⟨rfl, rfl⟩)
    go_big_quiet (first | (go_at_call 13; (with_reducible exact (fL.out _ (HI8.out _)).mono fun _ _ ⟨a, b⟩ => ⟨a, _, b.symm⟩)))
    go_wp2
    apply HQN.out
    exact ⟨s, some bS, sc, by rw [HSl.out], rfl, Lib.hid ⟨left, want, tt, M, HM.out.drewN _, HN.out⟩⟩
end Go.Proofs.YtpncbkodhojicaaDoor

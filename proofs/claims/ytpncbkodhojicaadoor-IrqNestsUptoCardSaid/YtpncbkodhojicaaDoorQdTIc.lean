/- vergelaw19, IrqNests: a line is begun. Conditions: lists that read, the de Bruijn table. -/
import Derived.Test.YtpncbkodhojicaaDoorQdQIc
import Derived.Deep.RegionLaw
namespace Go.Proofs.YtpncbkodhojicaaDoor
open Go.RowKit Go.Shelf
attribute [local go_sem] Oper.semAt_some
theorem sl_i64n : SlT Tryd.prog 47 2 (.int .i64 0) 8 := SlT.mk' Tryd.underlying47 (by kernel_rfl) rfl
set_option maxHeartbeats 16000000 in
set_option maxRecDepth 100000 in
theorem nsTimes (ls : List Ln) (p bl bw bt b13 : Nat) (A : Option Addr) (c : Nat) (w U : World) (k : Nat) (s s2 : Qs) (SA : Option Addr) (sc : Nat) (left want : List Int) (tt : List Tt) (M : List Nat) (t : Int) (i : Nat) (bot : Int) (hr : Rd w A (ls.flatMap lnc)) (hk60 : k < 60)
    (hM1 : NsM w p bl bw bt U s2 left want tt (s.bs.map fun b => (b.line : Int)) SA sc M) (hNI : NI ls k s left want (tt.map Tt.L)) (hi : i < ls.length) (ht0 : 0 ≤ t ∧ t ≤ 4503599627370496)
    (hq3 : (((((tt.map Tt.L).getD i []).filter (fun t' => decide (t - (ls.getD i ln0).window < t'))).length : Nat) : Int) < (ls.getD i ln0).many)
    (hq4 : NI ls (k + 1) s2 (left.set i (want.getD i 0)) want ((tt.map Tt.L).set i ((tt.map Tt.L).getD i [] ++ [t]))) (hq5 : s2.bs = s.bs ++ [⟨i, want.getD i 0, bot⟩]) (hq6 : s2.last = t)
    {u1 u2 u3 u4 u6 u12 u14 u16 u17 u18 u19 u20 u21 u22 u23 u24 u25 u26 u27 u28 u29 u30 u31 u32 u33 u34 u35 u36 u37 u38 u39 u40 u41 u42 u43 u44 u45 u46 u47 u48 u49 u50 u51 u52 u53 u54 u55 u56 u57 u58 u59 u60 u61 u62 u63 u64 u65 u66 u67 u68 u69 u70 u71 u72 u73 u74 u75 u76 u77 u78 u79 u80 u81 u82 u83 u84 u85 u86 u87 u88 u89 u90 u91 u92 u93 u94 u95 u96 u97 u98 u99 u100 u101 u102 u103 u104 u105 u106 u107 u108 u109 u110 u111 u112 u113 u114 u115 u116 u117 u118 u119 u120 u121 u122 u123 u124 u125 u126 u127 u128 u129 u130 u131 u132 u133 u134 u135 u136 u137 u138 u139 u140 u141 u142 u143 u144 u145 u146 u147 u148 u149 u150 u151 u152 u153 u154 u155 u156 u157 u158 u159 u160 u161 u162 u163 u164 u165 u166 u167 u168 u169 u170 u171 u172 u173 u174 u175 u176 u177 u178 u179 u180 u181 u182 u183 u184 u185 u186 u187 u188 u189 u190 u191 u192 u193 u194 u195 u196 u197 u198 u199 u200 u201 u202 u203 u204 u205 u206 u207 u208 u209 u210 u211 u212 u213 u214 u215 u216 u217 u218 u219 u220 u221 u222 u223 u224 u225 u226 u227 u228 u229 u230 u231 u232 u233 u234 u235 u236 u237 u238 u239 u240 u241 u242 u243 u244 u245 u246 u247 u248 u249 u250 u251 u252 u253 u254 u255 u256 u257 u258 u259 u260 u261 u262 u263 u264 u265 u266 u267 u268 u269 u270 u271 u272 u273 u274 u275 u276 u277 u278 u279 u280 u281 u282 u283 u284 u285 u286 u287 u288 u289 u290 u291 u292 u293 u294 u295 u296 u297 u298 u299 u300 u301 u302 : Value} (Q : Exit → Act → World → Prop)
    (hN : ∀ (v4 v18 v20 v149 v150 v151 v152 v153 v154 v155 v156 v157 v158 v159 v160 v161 v162 v163 v164 v165 v166 v167 v168 v169 v170 v171 v172 v173 v174 v175 v176 v177 v178 v179 v180 v181 v182 v183 v184 v185 v186 v187 v188 v189 v190 v191 v192 v193 v194 v195 v196 v197 st nw : Value) (wx : World), RelN w ls p bl bw bt k st nw wx → Q .normal { tmps := #[.slice A ls.length c, u1, u2, u3, v4, .pointer (some ⟨p, 0, none⟩), u6, st, .slice (some ⟨bl, 0, none⟩) ls.length ls.length, .slice (some ⟨bw, 0, none⟩) ls.length ls.length, .slice (some ⟨bt, 0, none⟩) ls.length ls.length, nw, u12, .pointer (some ⟨b13, 0, none⟩), u14, .int .i64 i, u16, u17, v18, u19, v20, u21, u22, u23, u24, u25, u26, u27, u28, u29, u30, u31, u32, u33, u34, u35, u36, u37, u38, u39, u40, u41, u42, u43, u44, u45, u46, u47, u48, u49, u50, u51, u52, u53, u54, u55, u56, u57, u58, u59, u60, u61, u62, u63, u64, u65, u66, u67, u68, u69, u70, u71, u72, u73, u74, u75, u76, u77, u78, u79, u80, u81, u82, u83, u84, u85, u86, u87, u88, u89, u90, u91, u92, u93, u94, u95, u96, u97, u98, u99, u100, u101, u102, u103, u104, u105, u106, u107, u108, u109, u110, u111, u112, u113, u114, u115, u116, u117, u118, u119, u120, u121, u122, u123, u124, u125, u126, u127, u128, u129, u130, u131, u132, u133, u134, u135, u136, u137, u138, u139, u140, u141, u142, u143, u144, u145, u146, u147, u148, v149, v150, v151, v152, v153, v154, v155, v156, v157, v158, v159, v160, v161, v162, v163, v164, v165, v166, v167, v168, v169, v170, v171, v172, v173, v174, v175, v176, v177, v178, v179, v180, v181, v182, v183, v184, v185, v186, v187, v188, v189, v190, v191, v192, v193, v194, v195, v196, v197, u198, u199, u200, u201, u202, u203, u204, u205, u206, u207, u208, u209, u210, u211, u212, u213, u214, u215, u216, u217, u218, u219, u220, u221, u222, u223, u224, u225, u226, u227, u228, u229, u230, u231, u232, u233, u234, u235, u236, u237, u238, u239, u240, u241, u242, u243, u244, u245, u246, u247, u248, u249, u250, u251, u252, u253, u254, u255, u256, u257, u258, u259, u260, u261, u262, u263, u264, u265, u266, u267, u268, u269, u270, u271, u272, u273, u274, u275, u276, u277, u278, u279, u280, u281, u282, u283, u284, u285, u286, u287, u288, u289, u290, u291, u292, u293, u294, u295, u296, u297, u298, u299, u300, u301, u302], defers := [] } wx)
    : Code.wp Tryd.prog (pick [1, 1, 1, 1, 1, 1, 1, 1, 1, 0, 1, 4, 5, 1, 1, 0, 4, 1, 0, 1, 4, 1, 3, 1, 2, 1, 1, 1, 1, 1, 1] (Tryd.f4.body.getD .skip)) (calm Q) { tmps := #[.slice A ls.length c, u1, u2, u3, u4, .pointer (some ⟨p, 0, none⟩), u6, .slice SA s.bs.length sc, .slice (some ⟨bl, 0, none⟩) ls.length ls.length, .slice (some ⟨bw, 0, none⟩) ls.length ls.length, .slice (some ⟨bt, 0, none⟩) ls.length ls.length, .int .i64 t, u12, .pointer (some ⟨b13, 0, none⟩), u14, .int .i64 i, u16, u17, u18, u19, u20, u21, u22, u23, u24, u25, u26, u27, u28, u29, u30, u31, u32, u33, u34, u35, u36, u37, u38, u39, u40, u41, u42, u43, u44, u45, u46, u47, u48, u49, u50, u51, u52, u53, u54, u55, u56, u57, u58, u59, u60, u61, u62, u63, u64, u65, u66, u67, u68, u69, u70, u71, u72, u73, u74, u75, u76, u77, u78, u79, u80, u81, u82, u83, u84, u85, u86, u87, u88, u89, u90, u91, u92, u93, u94, u95, u96, u97, u98, u99, u100, u101, u102, u103, u104, u105, u106, u107, u108, u109, u110, u111, u112, u113, u114, u115, u116, u117, u118, u119, u120, u121, u122, u123, u124, u125, u126, u127, u128, u129, u130, u131, u132, u133, u134, u135, u136, u137, u138, u139, u140, u141, u142, u143, u144, u145, u146, u147, u148, u149, u150, u151, u152, u153, u154, u155, u156, u157, u158, u159, u160, u161, u162, u163, u164, u165, u166, u167, u168, u169, u170, u171, u172, u173, u174, u175, u176, u177, u178, u179, u180, u181, u182, u183, u184, u185, u186, u187, u188, u189, u190, u191, u192, u193, u194, u195, u196, u197, u198, u199, u200, u201, u202, u203, u204, u205, u206, u207, u208, u209, u210, u211, u212, u213, u214, u215, u216, u217, u218, u219, u220, u221, u222, u223, u224, u225, u226, u227, u228, u229, u230, u231, u232, u233, u234, u235, u236, u237, u238, u239, u240, u241, u242, u243, u244, u245, u246, u247, u248, u249, u250, u251, u252, u253, u254, u255, u256, u257, u258, u259, u260, u261, u262, u263, u264, u265, u266, u267, u268, u269, u270, u271, u272, u273, u274, u275, u276, u277, u278, u279, u280, u281, u282, u283, u284, u285, u286, u287, u288, u289, u290, u291, u292, u293, u294, u295, u296, u297, u298, u299, u300, u301, u302], defers := [] } U := by
  have HQN := Lib.hid hN
  clear hN
  simp only [pick, Tryd.f4, Option.getD_some]
  have HR := Lib.hid hr
  have HMx := Lib.hid hM1
  have HN := Lib.hid hNI
  have Q4 := Lib.hid hq4
  have Q5 := Lib.hid hq5
  have Q6 := Lib.hid hq6
  have hwin := (hNI.qi.line (i := i) (by rw [hNI.len]; exact hi)).window
  rw [hNI.lnh hi] at hwin
  clear hr hM1 hNI hq4 hq5 hq6
  obtain ⟨aL, xL, rfl, hxL, p0, p1, p2, p3⟩ := (HR.out.below HMx.out.lo).lnAt hi
  rw [show ls.getD i ln0 = xL from hxL] at hq3
  rw [hxL] at hwin
  obtain ⟨prio, top, many, window⟩ := xL
  dsimp only at p0 p1 p2 p3 hq3 hwin
  have hit : i < tt.length := by
    have h9 := HN.out.ti.len
    rw [List.length_map, HN.out.len] at h9
    omega
  obtain ⟨c0, c1⟩ := HMx.out.tcell hit
  obtain ⟨y, hy⟩ : ∃ y, tt.getD i tt0 = y := ⟨_, rfl⟩
  have hyl : y.L.length ≤ 60 := by
    have h9 := HN.out.tl i hi
    rw [tl_get hit, hy] at h9
    omega
  rw [tl_get hit, hy] at hq3 Q4
  rw [hy] at c0
  have HTr := Lib.hid (HMx.out.tr y (hy ▸ tt_mem hit))
  have HY := Lib.hid hy
  obtain ⟨yA, yc, yL⟩ := y
  unfold Tt.v at c0 HTr
  dsimp only at c0 HTr hyl hq3 Q4
  have b1 : (0 : Int) ≤ (i : Int) := by omega
  have b2 : (i : Int) < (ls.length : Int) := by omega
  have b7 : (i : Int).toNat = i := by omega
  have e1 : wrap64 (t - window) = t - window := Go.IntWalk.wrap64_in _ (by omega)
  have HIt := Lib.hid hit
  have hlb : i < left.length := by rw [HN.out.llen]; exact hi
  have hwb : i < want.length := by rw [HN.out.wlen]; exact hi
  have HLb := Lib.hid hlb
  have HWb := Lib.hid hwb
  have hsl : s.bs.length ≤ 15 := HN.out.qi.blen
  have hts : tt.length = ls.length := by
    have h9 := HN.out.ti.len
    rw [List.length_map, HN.out.len] at h9
    exact h9
  clear hy hxL hit hlb hwb hwin ht0
  go_wp2_with fail
  go_loopw [18, 154] (fun nr jj wr => ∃ j : Nat, jj = .int .i64 j ∧ j ≤ yL.length ∧ nr = .int .i64 (((yL.take j).filter (fun t' => decide (t - window < t'))).length : Nat) ∧ U = wr) (fun _ jj _ => yL.length - (intOf jj).toNat)
  case atStart => exact ⟨0, rfl, by omega, rfl, rfl⟩
  case round =>
    obtain ⟨j, rfl, hj, rfl, rfl⟩ := hrel
    by_cases hjl : j < yL.length
    · obtain ⟨ay, rfl, u0⟩ := (own_rdK HTr.out).int (i := j) hjl
      have hfl : ((yL.take j).filter (fun t' => decide (t - window < t'))).length ≤ j := by
        have h9 := List.length_filter_le (fun t' => decide (t - window < t')) (yL.take j)
        rw [List.length_take] at h9
        omega
      have hst : Hid ((((yL.take (j + 1)).filter (fun t' => decide (t - window < t'))).length : Int) = (((yL.take j).filter (fun t' => decide (t - window < t'))).length : Int) + (if t - window < yL.getD j 0 then 1 else 0)) := Lib.hid (by have h9 := filt_step (fun t' => decide (t - window < t')) hjl; simpa only [decide_eq_true_eq] using h9)
      generalize ((yL.take j).filter (fun t' => decide (t - window < t'))).length = cn at *
      generalize yL.getD j 0 = u at *
      have d1 : (j : Int) < (yL.length : Int) := by omega
      have d2 : (0 : Int) ≤ (j : Int) := by omega
      have d3 : (j : Int).toNat = j := by omega
      obtain ⟨cv, hcv⟩ : ∃ cv : Int, ((cn : Nat) : Int) = cv := ⟨_, rfl⟩
      have d4 : wrap64 (cv + 1) = cv + 1 := Go.IntWalk.wrap64_in _ (by omega)
      rw [hcv]
      rw [hcv] at hst
      have d5 : (j : Int) + 1 ≤ 60 := by omega
      clear hcv hfl hq3
      by_cases hu : t - window < u
      · have d6 : decide (t - window < u) = true := decide_eq_true hu
        rw [if_pos hu] at hst
        go_wp2
        exact ⟨⟨j + 1, by go_num, hjl, by rw [hst.out, d4], trivial⟩, by simp [intOf]; omega⟩
      · have d6 : decide (t - window < u) = false := decide_eq_false hu
        rw [if_neg hu, Int.add_zero] at hst
        go_wp2
        exact ⟨⟨j + 1, by go_num, hjl, by rw [hst.out], trivial⟩, by simp [intOf]; omega⟩
    · obtain rfl : j = yL.length := by omega
      rw [List.take_length] at *
      generalize (yL.filter (fun t' => decide (t - window < t'))).length = cn at *
      have d6 : decide (many ≤ (cn : Int)) = false := decide_eq_false (by omega)
      have d7 : ¬ many ≤ (cn : Int) := by omega
      have hlo : w.heap.size ≤ U.heap.size := HMx.out.lo.size
      go_upto_region 39 with (at_builtin; go_loud (refine wp_app1g (n := yL.length) rfl _ _ sl_i64n (by decide) rfl (own_allocK HTr.out _) rfl (by omega) (by simp; omega) U.heap.size (.int .i64 t) rfl (new_cell (w := U) (j := 0) rfl) rfl ?_); intro A4 c4 w4 ho4 hg4 hat4; have HO4 := Lib.hid ho4; have HG4 := Lib.hid hg4; have HAt := Lib.hid hat4; have HZ4 := Lib.hid (grown_step HTr.out hg4); clear ho4 hg4 hat4; have HB4 := Lib.hid (HZ4.out.other HMx.out.tx (by decide)); obtain ⟨tx, ty⟩ := box_rules HB4.out; have tl := box_lt HB4.out)
      clear tx ty tl c0 c1
      obtain ⟨M1, hM1, hm5⟩ := HMx.out.appT (y := ⟨yA, yc, yL⟩) (x := t) HIt.out HY.out HG4.out HAt.out HO4.out
      generalize w4.setCell ⟨bt, i, none⟩ (.slice A4 (yL.length + 1) c4) = V5 at *
      have HM5 := Lib.hid hm5
      have hsr := hm5.sr
      rw [List.length_map] at hsr
      have HSr := Lib.hid hsr
      obtain ⟨c2, c3⟩ := hm5.wcell HWb.out
      obtain ⟨c4', c5⟩ := hm5.lcell HLb.out
      obtain ⟨wv, hwv⟩ : ∃ wv, want.getD i 0 = wv := ⟨_, rfl⟩
      obtain ⟨lv, hlv⟩ : ∃ lv, left.getD i 0 = lv := ⟨_, rfl⟩
      have HWv := Lib.hid hwv
      rw [hwv] at c2 Q4 Q5
      rw [hlv] at c4'
      have lw := box_lt hm5.wx
      have ll := box_lt hm5.lx
      have hlo5 := hm5.lo.size
      clear hm5 hsr hwv hlv HZ4 HB4 HO4 HG4 HAt HTr HMx
      go_region_law ((refine step_appK (n := s.bs.length) rfl _ _ sk_intq (by decide) rfl (own_drewK (own_allocK HSr.out _)) rfl (by omega) (by simp; omega) V5.heap.size [.int .i64 (i : Int)] rfl rfl (fun j u hu => new_cell hu) rfl ?_; intro A6 c6 w6 ho6 hg6 hat6; have HO6 := Lib.hid ho6; have HG6 := Lib.hid (grown_undrew hg6); have HAt6 := Lib.hid hat6; have G6 := Lib.hid (grown_step HSr.out (grown_undrew hg6)); clear ho6 hg6 hat6; obtain ⟨lx6, ly6⟩ := cells_at (G6.out.other HM5.out.lx (by decide)) (i := i) (v := .int .i64 (left.getD i 0)) (by rw [List.getElem?_map, List.getElem?_eq_getElem HLb.out, List.getD_eq_getElem?_getD, List.getElem?_eq_getElem HLb.out]; rfl); obtain ⟨wx6, wy6⟩ := cells_at (G6.out.other HM5.out.wx (by decide)) (i := i) (v := .int .i64 wv) (by rw [List.getElem?_map, List.getElem?_eq_getElem HWb.out, ← HWv.out, List.getD_eq_getElem?_getD, List.getElem?_eq_getElem HWb.out]; rfl)))
      all_goals
        show Q .normal _ _
        apply HQN.out
        obtain ⟨M2, _, hm6⟩ := HM5.out.appS (A4 := A6) (c4 := c6) (x := (i : Int)) (by rw [List.length_map]; exact HG6.out) (by rw [List.length_map]; exact HAt6.out) (by rw [List.length_map]; exact HO6.out)
        have hm7 := hm6.setL i wv
        have hbs : s2.bs.map (fun b => (b.line : Int)) = (s.bs.map fun b => (b.line : Int)) ++ [(i : Int)] := by rw [Q5.out, List.map_append]; rfl
        have hbl : s2.bs.length = s.bs.length + 1 := by rw [Q5.out, List.length_append]; rfl
        refine ⟨s2, A6, c6, by rw [hbl], by rw [Q6.out], Lib.hid ⟨left.set i wv, want, tt.set i ⟨A4, c4, yL ++ [t]⟩, M2, by rw [hbs]; exact hm7, ?_⟩⟩
        rw [List.map_set]
        exact Q4.out
end Go.Proofs.YtpncbkodhojicaaDoor

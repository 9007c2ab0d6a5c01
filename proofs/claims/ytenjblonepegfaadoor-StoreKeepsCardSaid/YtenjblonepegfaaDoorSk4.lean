/-
  A case of StoreKeeps' switch. Conditions: the store and the disk lie as 'SkR' says, the step as it came in.
-/
import Derived.Test.YtenjblonepegfaaDoorSk1
import Derived.Deep.CutBlock
import Derived.Deep.DeepCutAuto
import Derived.StillTailTactics
namespace Go.Proofs.YtenjblonepegfaaDoor
open Go Go.RowKit
set_option linter.unusedVariables false
set_option maxRecDepth 100000 in
set_option maxHeartbeats 4000000 in
theorem sk_s1 (u2 u3 u4 u6 u8 u9 u10 u16 u17 u18 u19 u20 u21 u22 u23 u24 u25 u26 u27 u28 u29 u30 u31 u32 u33 u34 u35 u36 u37 u38 u39 u40 u41 u42 u43 u44 u45 u46 u47 u48 u49 u50 u51 u52 u53 u54 u55 u56 u57 u58 u59 u60 u61 u62 u63 u64 u65 u66 u67 u68 u69 u70 u71 u72 u73 u74 u75 u76 u77 u78 u79 u80 u81 u82 u83 u84 u85 u86 u87 u88 u89 u90 u91 u92 u93 u94 u95 u96 u97 u98 u99 u100 u101 u102 u103 u104 u105 u106 u107 u108 u109 u110 u111 u112 u113 u114 u115 u116 u117 u118 u119 u120 u121 u122 u123 u124 u127 u128 u129 u130 u131 u132 u133 u134 u135 u136 u137 u138 u139 u140 u141 u142 u143 u144 u145 u146 u147 u148 u149 u150 u151 u152 u153 u154 u155 u156 u157 u158 u159 u160 u161 u162 u163 u164 u165 u166 u167 u168 u169 u170 u171 u172 u173 u174 u175 u176 u177 u178 u179 u180 u181 u182 u183 u184 u185 u186 u187 u188 u189 u190 u191 u192 u193 u194 u195 u196 u197 u198 u199 u200 u201 u202 u203 u204 u205 u206 u207 u208 u209 u210 u211 u212 u213 u214 u215 u216 u217 u218 u219 u220 u221 u222 u223 u224 u225 u226 u227 u228 u229 u230 u231 u232 u233 u234 u235 u236 u237 u238 u239 u240 u241 u242 u243 u244 u245 u246 u247 u248 u249 u250 u251 u252 u253 u254 u255 u256 u257 u258 u259 u260 u261 u262 u263 u264 u265 u266 : Value) (W w1 : World) (n : Nat) (d : DK.D) (SA : Option Addr) (sl sc gu gs gx k t : Nat) (b : List Int) (ar : Bool) (y x : Int) (A : Option Addr) (m c : Nat) (p : List Int) (KA : Option Addr) (km kc : Nat) (kl : List Int) (ev : Value) (h : SkR W n d gu gs t b false (some (gx, #[.int .i64 y, .int .i64 x, .slice A m c, .slice KA km kc, ev])) w1) (hn : 62 ≤ n) (hg : Good n d t b) (hd : Td.Door W) (har : ar = false → d.left = -1) (htk : t ≤ k) (hk20 : k ≤ 20) (hA : BytesAt W A p) (hpl : p.length = m) (hmc : m ≤ c) (hcm : c ≤ maxLen) (hki : IntsAt W KA kl) (hkl : kl.length = km) (hkm : km ≤ maxLen) (hx64 : -9223372036854775808 ≤ x ∧ x ≤ 9223372036854775807) (q : y = 1) (Q : Exit → Act → World → Prop)
    (hK : ∀ (v15 v16 v17 v18 v19 v20 v21 v22 v23 v121 v122 v123 v124 v125 v126 v127 v128 v129 v130 v131 v132 v133 v134 v135 v136 v137 v138 v139 v140 v141 v142 v143 v144 v145 v146 v147 v148 v149 v150 v151 v152 v153 v154 v155 v156 v157 v158 v159 v160 v161 v162 v163 v164 v165 v166 v167 v168 v169 v170 v171 v172 v173 v174 v175 v176 v177 v178 v179 v180 v181 v182 v183 v184 v185 v186 v187 v188 v189 v190 v191 v192 v193 v194 v195 v196 v197 v198 v199 v200 v201 v202 v203 v204 v205 v206 v207 v208 v209 v210 v211 v212 v213 v214 v215 v216 v217 v218 v219 v220 v221 v222 v223 v224 v225 v226 v227 v228 v229 v230 v231 v232 v233 v234 v235 v236 v237 v238 v239 v240 v241 v242 v243 v244 v245 v246 v247 v248 v249 v250 v251 v252 v253 v254 v255 v256 v257 v258 v259 v260 v261 v262 v263 v264 v265 v266 : Value) (w' : World) (d2 : DK.D) (gs2 t2 : Nat) (b2 : List Int) (T2 : Int) (ar2 : Bool), SkR W n d2 gu gs2 t2 b2 false none w' → Good n d2 t2 b2 → (ar2 = false → d2.left = -1) → t2 ≤ k + 1 → T2 = (t2 : Int) → Q Exit.normal ⟨List.toArray (.int .i64 (n : Nat) :: .slice SA sl sc :: u2 :: u3 :: u4 :: .pointer (some ⟨gu, 0, none⟩) :: u6 :: .pointer (some ⟨gs2, 0, none⟩) :: u8 :: u9 :: u10 :: .string (strOfNums b2) :: .int .i64 T2 :: .bool ar2 :: .int .i64 (k : Nat) :: v15 :: v16 :: v17 :: v18 :: v19 :: v20 :: v21 :: v22 :: v23 :: u24 :: u25 :: u26 :: u27 :: u28 :: u29 :: u30 :: u31 :: u32 :: u33 :: u34 :: u35 :: u36 :: u37 :: u38 :: u39 :: u40 :: u41 :: u42 :: u43 :: u44 :: u45 :: u46 :: u47 :: u48 :: u49 :: u50 :: u51 :: u52 :: u53 :: u54 :: u55 :: u56 :: u57 :: u58 :: u59 :: u60 :: u61 :: u62 :: u63 :: u64 :: u65 :: u66 :: u67 :: u68 :: u69 :: u70 :: u71 :: u72 :: u73 :: u74 :: u75 :: u76 :: u77 :: u78 :: u79 :: u80 :: u81 :: u82 :: u83 :: u84 :: u85 :: u86 :: u87 :: u88 :: u89 :: u90 :: u91 :: u92 :: u93 :: u94 :: u95 :: u96 :: u97 :: u98 :: u99 :: u100 :: u101 :: u102 :: u103 :: u104 :: u105 :: u106 :: u107 :: u108 :: u109 :: u110 :: u111 :: u112 :: u113 :: u114 :: u115 :: u116 :: u117 :: u118 :: u119 :: u120 :: v121 :: v122 :: v123 :: v124 :: v125 :: v126 :: v127 :: v128 :: v129 :: v130 :: v131 :: v132 :: v133 :: v134 :: v135 :: v136 :: v137 :: v138 :: v139 :: v140 :: v141 :: v142 :: v143 :: v144 :: v145 :: v146 :: v147 :: v148 :: v149 :: v150 :: v151 :: v152 :: v153 :: v154 :: v155 :: v156 :: v157 :: v158 :: v159 :: v160 :: v161 :: v162 :: v163 :: v164 :: v165 :: v166 :: v167 :: v168 :: v169 :: v170 :: v171 :: v172 :: v173 :: v174 :: v175 :: v176 :: v177 :: v178 :: v179 :: v180 :: v181 :: v182 :: v183 :: v184 :: v185 :: v186 :: v187 :: v188 :: v189 :: v190 :: v191 :: v192 :: v193 :: v194 :: v195 :: v196 :: v197 :: v198 :: v199 :: v200 :: v201 :: v202 :: v203 :: v204 :: v205 :: v206 :: v207 :: v208 :: v209 :: v210 :: v211 :: v212 :: v213 :: v214 :: v215 :: v216 :: v217 :: v218 :: v219 :: v220 :: v221 :: v222 :: v223 :: v224 :: v225 :: v226 :: v227 :: v228 :: v229 :: v230 :: v231 :: v232 :: v233 :: v234 :: v235 :: v236 :: v237 :: v238 :: v239 :: v240 :: v241 :: v242 :: v243 :: v244 :: v245 :: v246 :: v247 :: v248 :: v249 :: v250 :: v251 :: v252 :: v253 :: v254 :: v255 :: v256 :: v257 :: v258 :: v259 :: v260 :: v261 :: v262 :: v263 :: v264 :: v265 :: v266 :: []), []⟩ w') :
    Code.wp Tryd.prog skSw (Exit.inBlock 1 Q) ⟨List.toArray (.int .i64 (n : Nat) :: .slice SA sl sc :: u2 :: u3 :: u4 :: .pointer (some ⟨gu, 0, none⟩) :: u6 :: .pointer (some ⟨gs, 0, none⟩) :: u8 :: u9 :: u10 :: .string (strOfNums b) :: .int .i64 (t : Nat) :: .bool ar :: .int .i64 (k : Nat) :: .pointer (some ⟨gx, 0, none⟩) :: u16 :: u17 :: u18 :: u19 :: u20 :: u21 :: u22 :: u23 :: u24 :: u25 :: u26 :: u27 :: u28 :: u29 :: u30 :: u31 :: u32 :: u33 :: u34 :: u35 :: u36 :: u37 :: u38 :: u39 :: u40 :: u41 :: u42 :: u43 :: u44 :: u45 :: u46 :: u47 :: u48 :: u49 :: u50 :: u51 :: u52 :: u53 :: u54 :: u55 :: u56 :: u57 :: u58 :: u59 :: u60 :: u61 :: u62 :: u63 :: u64 :: u65 :: u66 :: u67 :: u68 :: u69 :: u70 :: u71 :: u72 :: u73 :: u74 :: u75 :: u76 :: u77 :: u78 :: u79 :: u80 :: u81 :: u82 :: u83 :: u84 :: u85 :: u86 :: u87 :: u88 :: u89 :: u90 :: u91 :: u92 :: u93 :: u94 :: u95 :: u96 :: u97 :: u98 :: u99 :: u100 :: u101 :: u102 :: u103 :: u104 :: u105 :: u106 :: u107 :: u108 :: u109 :: u110 :: u111 :: u112 :: u113 :: u114 :: u115 :: u116 :: u117 :: u118 :: u119 :: u120 :: u121 :: u122 :: u123 :: u124 :: .pointer (some ⟨gx, 0, none⟩) :: .int .i64 y :: u127 :: u128 :: u129 :: u130 :: u131 :: u132 :: u133 :: u134 :: u135 :: u136 :: u137 :: u138 :: u139 :: u140 :: u141 :: u142 :: u143 :: u144 :: u145 :: u146 :: u147 :: u148 :: u149 :: u150 :: u151 :: u152 :: u153 :: u154 :: u155 :: u156 :: u157 :: u158 :: u159 :: u160 :: u161 :: u162 :: u163 :: u164 :: u165 :: u166 :: u167 :: u168 :: u169 :: u170 :: u171 :: u172 :: u173 :: u174 :: u175 :: u176 :: u177 :: u178 :: u179 :: u180 :: u181 :: u182 :: u183 :: u184 :: u185 :: u186 :: u187 :: u188 :: u189 :: u190 :: u191 :: u192 :: u193 :: u194 :: u195 :: u196 :: u197 :: u198 :: u199 :: u200 :: u201 :: u202 :: u203 :: u204 :: u205 :: u206 :: u207 :: u208 :: u209 :: u210 :: u211 :: u212 :: u213 :: u214 :: u215 :: u216 :: u217 :: u218 :: u219 :: u220 :: u221 :: u222 :: u223 :: u224 :: u225 :: u226 :: u227 :: u228 :: u229 :: u230 :: u231 :: u232 :: u233 :: u234 :: u235 :: u236 :: u237 :: u238 :: u239 :: u240 :: u241 :: u242 :: u243 :: u244 :: u245 :: u246 :: u247 :: u248 :: u249 :: u250 :: u251 :: u252 :: u253 :: u254 :: u255 :: u256 :: u257 :: u258 :: u259 :: u260 :: u261 :: u262 :: u263 :: u264 :: u265 :: u266 :: []), []⟩ w1 := by
  have HK := Lib.hid hK
  have H1 := Lib.hid h
  have HGD := Lib.hid hg
  have HD := Lib.hid hd
  have HAR := Lib.hid har
  have HA := Lib.hid hA
  have HPL := Lib.hid hpl
  have HCM := Lib.hid hcm
  have HKI := Lib.hid hki
  have HKL := Lib.hid hkl
  have HKM := Lib.hid hkm
  clear hK h hg hd har hA hpl hcm hki hkl hkm
  simp only [skSw, skRound, cBody, cFst, cSnd, cArm, Tryd.f6]
  subst q
  have d2 : w1.cell? ⟨gx, 2, none⟩ = some (.slice A m c) := (H1.out.box _ _ rfl).1.cell 2
  have hcm : c ≤ 9223372036854775807 := by have := HCM.out; unfold maxLen at this; omega
  by_cases hm : 960 < m
  · have hm' : (960 : Int) < (m : Int) := by omega
    go_wp2_with fail
    refine (sk_full A m c hm).mono ?_
    rintro e w2 ⟨rfl, rfl⟩
    go_wp2_with fail
    refine (same_errno w1 3 3 (HD.out.new H1.out.bel) true rfl).mono ?_
    rintro e w3 ⟨rfl, h3⟩
    have HN := Lib.hid (H1.out.ext h3).drop
    clear h3
    go_wp2
    exact HK.out _ _ _ _ _ _ _ _ _ _ _ _ _ _ _ _ _ _ _ _ _ _ _ _ _ _ _ _ _ _ _ _ _ _ _ _ _ _ _ _ _ _ _ _ _ _ _ _ _ _ _ _ _ _ _ _ _ _ _ _ _ _ _ _ _ _ _ _ _ _ _ _ _ _ _ _ _ _ _ _ _ _ _ _ _ _ _ _ _ _ _ _ _ _ _ _ _ _ _ _ _ _ _ _ _ _ _ _ _ _ _ _ _ _ _ _ _ _ _ _ _ _ _ _ _ _ _ _ _ _ _ _ _ _ _ _ _ _ _ _ _ _ _ _ _ _ _ _ _ _ _ _ _ _ _ w3 d gs t b t ar HN.out HGD.out HAR.out (by omega) rfl
  · have hm' : ¬ (960 : Int) < (m : Int) := by omega
    go_wp2_with fail
    refine (sk_save H1.out hn HGD.out (by omega) A m c HPL.out (by omega) hmc HCM.out (H1.out.old HA.out) (fun hne y hy => .inl (HA.out.lt_ hne hy))).mono ?_
    rintro e w2 (⟨d3, rfl, h2, hg2, hl2⟩ | ⟨d3, rfl, hl2, h2, hg2⟩)
    · have H2 := Lib.hid h2
      have HG2 := Lib.hid hg2
      have HL2 := Lib.hid hl2
      have d2' : w2.cell? ⟨gx, 2, none⟩ = some (.slice A m c) := (h2.box _ _ rfl).1.cell 2
      have hcv : (convert 33 9 (.slice A m c)).run Tryd.prog w2 = .ok (.string (strOfNums p)) w2 := bytes_string (h2.old HA.out) HPL.out
      clear h2 hg2 hl2 d2
      go_wp2_with fail
      refine (sk_load H2.out HG2.out.ps.bl).mono ?_
      rintro e w3 ⟨LA, lc, rfl, hcv3, h3⟩
      have H3 := Lib.hid h3
      clear h3 hcv d2'
      go_wp2_with fail
      refine (sk_turn H3.out).mono ?_
      rintro e w4 ⟨rfl, rfl⟩
      have HN := Lib.hid H3.out.drop
      clear hcv3
      go_wp2
      exact HK.out _ _ _ _ _ _ _ _ _ _ _ _ _ _ _ _ _ _ _ _ _ _ _ _ _ _ _ _ _ _ _ _ _ _ _ _ _ _ _ _ _ _ _ _ _ _ _ _ _ _ _ _ _ _ _ _ _ _ _ _ _ _ _ _ _ _ _ _ _ _ _ _ _ _ _ _ _ _ _ _ _ _ _ _ _ _ _ _ _ _ _ _ _ _ _ _ _ _ _ _ _ _ _ _ _ _ _ _ _ _ _ _ _ _ _ _ _ _ _ _ _ _ _ _ _ _ _ _ _ _ _ _ _ _ _ _ _ _ _ _ _ _ _ _ _ _ _ _ _ _ _ _ _ _ _ w3 d3 gs (t + 1) p _ ar HN.out HG2.out (fun h => HL2.out (HAR.out h)) (by omega) (by omega)
    · obtain rfl : ar = true := by
        cases ar
        · exact absurd (HAR.out rfl) hl2
        · rfl
      have H2 := Lib.hid h2
      have HG2 := Lib.hid hg2
      clear h2 hg2 hl2 d2
      have d2 : w2.cell? ⟨gx, 2, none⟩ = some (.slice A m c) := (H2.out.box _ _ rfl).1.cell 2
      go_wp2_with fail
      refine (same_errno w2 8 8 (HD.out.new H2.out.bel) true rfl).mono ?_
      rintro e w3 ⟨rfl, h3⟩
      have H3 := Lib.hid (H2.out.ext h3)
      clear h3 d2
      go_wp2_with fail
      refine (sk_down H3.out).mono ?_
      rintro e w3' ⟨rfl, rfl⟩
      go_wp2_with fail
      refine (same_errno w3 8 8 (HD.out.new H3.out.bel) true rfl).mono ?_
      rintro e w4 ⟨rfl, h4⟩
      have H4 := Lib.hid (H3.out.ext h4)
      clear h4
      go_wp2_with fail
      refine (sk_load H4.out HGD.out.ps.bl).mono ?_
      rintro e w5 ⟨LA, lc, rfl, hcv5, h5⟩
      have H5 := Lib.hid h5
      clear h5
      go_wp2_with fail
      refine (sk_turn H5.out).mono ?_
      rintro e w5' ⟨rfl, rfl⟩
      clear hcv5
      have e3 : w5.cell? ⟨gx, 3, none⟩ = some (.slice KA km kc) := (H5.out.box _ _ rfl).1.cell 3
      go_wp2_with fail
      refine (sk_crash H5.out KA km kc kl HKI.out HKL.out HKM.out).mono ?_
      rintro e w6 ⟨rfl, h6⟩
      have H6 := Lib.hid h6
      clear h6 e3
      rcases HG2.out kl with hg6 | hg6
      · have HG6 := Lib.hid hg6
        clear hg6
        go_wp2_with fail
        refine (sk_open H6.out hn HG6.out).mono ?_
        rintro e w7 ⟨gs7, rfl, h7⟩
        have H7 := Lib.hid h7
        clear h7
        go_wp2_with fail
        refine (sk_load H7.out HGD.out.ps.bl).mono ?_
        rintro e w8 ⟨LA8, lc8, rfl, hcv8, h8⟩
        have H8 := Lib.hid h8
        clear h8
        go_wp2_with fail
        refine (sk_turn H8.out).mono ?_
        rintro e w8' ⟨rfl, rfl⟩
        have HN := Lib.hid H8.out.drop
        clear hcv8
        go_wp2
        exact HK.out _ _ _ _ _ _ _ _ _ _ _ _ _ _ _ _ _ _ _ _ _ _ _ _ _ _ _ _ _ _ _ _ _ _ _ _ _ _ _ _ _ _ _ _ _ _ _ _ _ _ _ _ _ _ _ _ _ _ _ _ _ _ _ _ _ _ _ _ _ _ _ _ _ _ _ _ _ _ _ _ _ _ _ _ _ _ _ _ _ _ _ _ _ _ _ _ _ _ _ _ _ _ _ _ _ _ _ _ _ _ _ _ _ _ _ _ _ _ _ _ _ _ _ _ _ _ _ _ _ _ _ _ _ _ _ _ _ _ _ _ _ _ _ _ _ _ _ _ _ _ _ _ _ _ _ w8 _ gs7 t b t false HN.out HG6.out (fun _ => rfl) (by omega) rfl
      · have HG6 := Lib.hid hg6
        clear hg6
        go_wp2_with fail
        refine (sk_open H6.out hn HG6.out).mono ?_
        rintro e w7 ⟨gs7, rfl, h7⟩
        have H7 := Lib.hid h7
        clear h7
        go_wp2_with fail
        refine (sk_load H7.out HG6.out.ps.bl).mono ?_
        rintro e w8 ⟨LA8, lc8, rfl, hcv8, h8⟩
        have H8 := Lib.hid h8
        clear h8
        go_wp2_with fail
        refine (sk_turn H8.out).mono ?_
        rintro e w8' ⟨rfl, rfl⟩
        have HN := Lib.hid H8.out.drop
        have e2 : w8.cell? ⟨gx, 2, none⟩ = some (.slice A m c) := (H8.out.box _ _ rfl).1.cell 2
        have hcv : (convert 33 9 (.slice A m c)).run Tryd.prog w8 = .ok (.string (strOfNums p)) w8 := bytes_string (H8.out.old HA.out) HPL.out
        have hne : ¬ ((t : Int) + 1 = (t : Int)) := by omega
        clear hcv8
        by_cases hpb : strOfNums p = strOfNums b
        · go_wp2
          rw [← hpb]
          exact HK.out _ _ _ _ _ _ _ _ _ _ _ _ _ _ _ _ _ _ _ _ _ _ _ _ _ _ _ _ _ _ _ _ _ _ _ _ _ _ _ _ _ _ _ _ _ _ _ _ _ _ _ _ _ _ _ _ _ _ _ _ _ _ _ _ _ _ _ _ _ _ _ _ _ _ _ _ _ _ _ _ _ _ _ _ _ _ _ _ _ _ _ _ _ _ _ _ _ _ _ _ _ _ _ _ _ _ _ _ _ _ _ _ _ _ _ _ _ _ _ _ _ _ _ _ _ _ _ _ _ _ _ _ _ _ _ _ _ _ _ _ _ _ _ _ _ _ _ _ _ _ _ _ _ _ _ w8 _ gs7 (t + 1) p _ false HN.out HG6.out (fun _ => rfl) (by omega) (by omega)
        · go_wp2
          all_goals exact HK.out _ _ _ _ _ _ _ _ _ _ _ _ _ _ _ _ _ _ _ _ _ _ _ _ _ _ _ _ _ _ _ _ _ _ _ _ _ _ _ _ _ _ _ _ _ _ _ _ _ _ _ _ _ _ _ _ _ _ _ _ _ _ _ _ _ _ _ _ _ _ _ _ _ _ _ _ _ _ _ _ _ _ _ _ _ _ _ _ _ _ _ _ _ _ _ _ _ _ _ _ _ _ _ _ _ _ _ _ _ _ _ _ _ _ _ _ _ _ _ _ _ _ _ _ _ _ _ _ _ _ _ _ _ _ _ _ _ _ _ _ _ _ _ _ _ _ _ _ _ _ _ _ _ _ _ w8 _ gs7 (t + 1) p _ false HN.out HG6.out (fun _ => rfl) (by omega) (by omega)
end Go.Proofs.YtenjblonepegfaaDoor

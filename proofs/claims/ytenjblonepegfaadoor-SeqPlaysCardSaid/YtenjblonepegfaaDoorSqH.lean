/-
  A case of SeqPlays' switch. Conditions: the state is as 'SwAt' says.
-/
import Derived.Test.YtenjblonepegfaaDoorSq9
import Derived.Deep.CutBlock
import Derived.Deep.DeepCutAuto
import Derived.StillTailTactics
namespace Go.Proofs.YtenjblonepegfaaDoor
open Go Go.RowKit SQ
set_option linter.unusedVariables false
set_option maxRecDepth 100000 in
set_option maxHeartbeats 4000000 in
theorem sw_H (u0 u1 u2 u5 u10 u11 u12 u13 u14 u15 u16 u17 u18 u19 u20 u21 u22 u23 u24 u25 u26 u27 u28 u29 u30 u31 u32 u33 u34 u35 u36 u37 u38 u39 u40 u41 u42 u43 u44 u45 u46 u47 u48 u49 u50 u51 u52 u53 u54 u55 u56 u59 u60 u61 u62 u63 u64 u65 u66 u67 u68 u69 u70 u71 u72 u73 u74 u75 u76 u77 u78 u79 u80 u81 u82 u83 u84 u85 u86 u87 u88 u89 u90 u91 u92 u93 u94 u95 u96 u97 u98 u99 u100 u101 u102 u103 u104 u105 u106 u107 u108 u109 u110 u111 u112 u113 u114 u115 u116 u117 u118 u119 u120 u121 u122 u123 u124 u125 u126 u127 u128 u129 u130 u131 u132 u133 u134 u135 u136 u137 u138 u139 u140 u141 u142 u143 u144 u145 u146 u147 u148 u149 u150 u151 u152 u153 u154 u155 u156 u157 u158 u159 u160 u161 u162 u163 u164 u165 u166 u167 u168 u169 u170 u171 u172 u173 u174 u175 u176 u177 u178 u179 u180 u181 u182 u183 u184 u185 u186 u187 u188 u189 u190 u191 u192 u193 u194 u195 u196 u197 u198 u199 u200 u201 u202 u203 u204 u205 u206 u207 u208 u209 u210 u211 u212 u213 u214 u215 u216 u217 u218 u219 u220 u221 u222 u223 u224 u225 u226 u227 u228 u229 u230 u231 u232 u233 u234 u235 u236 u237 u238 u239 u240 u241 u242 u243 u244 u245 u246 u247 u248 u249 u250 u251 u252 u253 u254 u255 u256 u257 u258 u259 u260 u261 u262 u263 u264 u265 u266 u267 u268 u269 u270 u271 u272 u273 u274 u275 u276 u277 u278 u279 u280 u281 u282 u283 u284 u285 u286 u287 u288 u289 u290 u291 u292 u293 u294 u295 u296 u297 u298 u299 u300 u301 u302 u303 u304 u305 u306 u307 u308 u309 u310 : Value) (W w1 : World) (k m gr c1 gw c2 gs da db : Nat) (t x y : Int) (SA : Option Addr) (sm sc : Nat) (sl : List Int) (L : List QR) (pa Aa pb Ab : Option Addr) (ta tb : T) (ca cb : Nat)
    (H : SwAt W w1 k m gr c1 gw c2 gs da db t x y SA sm sc sl L pa Aa pb Ab ta tb ca cb) (q0 : t ≠ 0) (q1 : t ≠ 1) (q2 : t ≠ 2) (q3 : t ≠ 3) (hy : y < 0 ∨ (¬ y < 0 ∧ (ta.size : Int) ≤ y)) (K : Act → World → Prop) (Q : Exit → Act → World → Prop)
    (hK : ∀ (v9 v10 v11 v12 v13 v14 v15 v16 v17 v18 v19 v20 v21 v22 v23 v24 v25 v26 v57 v58 v59 v60 v61 v62 v63 v64 v65 v66 v67 v68 v69 v70 v71 v72 v73 v74 v75 v76 v77 v78 v79 v80 v81 v82 v83 v84 v85 v86 v87 v88 v89 v90 v91 v92 v93 v94 v95 v96 v97 v98 v99 v100 v101 v102 v103 v104 v105 v106 v107 v108 v109 v110 v111 v112 v113 v114 v115 v116 v117 v118 v119 v120 v121 v122 v123 v124 v125 v126 v127 v128 v129 v130 v131 v132 v133 v134 v135 v136 v137 v138 v139 v140 v141 v142 v143 v144 v145 v146 v147 v148 v149 v150 v151 v152 v153 v154 v155 v156 v157 v158 v159 v160 v161 v162 v163 v164 v165 v166 v167 v168 v169 v170 v171 v172 v173 v174 v175 v176 v177 v178 v179 v180 v181 v182 v183 v184 v185 v186 v187 v188 v189 v190 v191 v192 v193 v194 v195 v196 v197 v198 v199 v200 v201 v202 v203 v204 v205 v206 v207 v208 v209 v210 v211 v212 v213 v214 v215 v216 v217 v218 v219 v220 v221 v222 v223 v224 v225 v226 v227 v228 v229 v230 v231 v232 v233 v234 v235 v236 v237 v238 v239 v240 v241 v242 v243 v244 v245 v246 v247 v248 v249 v250 v251 v252 v253 v254 v255 v256 v257 v258 v259 v260 v261 v262 v263 v264 v265 v266 v267 v268 v269 v270 v271 v272 v273 v274 v275 v276 v277 v278 v279 v280 v281 v282 v283 v284 v285 v286 v287 v288 v289 v290 v291 v292 v293 v294 v295 v296 v297 v298 v299 v300 v301 v302 v303 v304 v305 v306 v307 v308 v309 v310 s3 s4 : Value) (w' : World), SwRel W k s3 s4 w' → K ⟨List.toArray (u0 :: u1 :: u2 :: s3 :: s4 :: u5 :: .pointer (some ⟨gs, 0, none⟩) :: .int .i64 (da : Nat) :: .int .i64 (db : Nat) :: v9 :: v10 :: v11 :: v12 :: v13 :: v14 :: v15 :: v16 :: v17 :: v18 :: v19 :: v20 :: v21 :: v22 :: v23 :: v24 :: v25 :: v26 :: u27 :: u28 :: u29 :: u30 :: u31 :: u32 :: u33 :: u34 :: u35 :: u36 :: u37 :: u38 :: u39 :: u40 :: u41 :: u42 :: u43 :: u44 :: u45 :: u46 :: u47 :: u48 :: u49 :: u50 :: u51 :: u52 :: u53 :: u54 :: u55 :: u56 :: v57 :: v58 :: v59 :: v60 :: v61 :: v62 :: v63 :: v64 :: v65 :: v66 :: v67 :: v68 :: v69 :: v70 :: v71 :: v72 :: v73 :: v74 :: v75 :: v76 :: v77 :: v78 :: v79 :: v80 :: v81 :: v82 :: v83 :: v84 :: v85 :: v86 :: v87 :: v88 :: v89 :: v90 :: v91 :: v92 :: v93 :: v94 :: v95 :: v96 :: v97 :: v98 :: v99 :: v100 :: v101 :: v102 :: v103 :: v104 :: v105 :: v106 :: v107 :: v108 :: v109 :: v110 :: v111 :: v112 :: v113 :: v114 :: v115 :: v116 :: v117 :: v118 :: v119 :: v120 :: v121 :: v122 :: v123 :: v124 :: v125 :: v126 :: v127 :: v128 :: v129 :: v130 :: v131 :: v132 :: v133 :: v134 :: v135 :: v136 :: v137 :: v138 :: v139 :: v140 :: v141 :: v142 :: v143 :: v144 :: v145 :: v146 :: v147 :: v148 :: v149 :: v150 :: v151 :: v152 :: v153 :: v154 :: v155 :: v156 :: v157 :: v158 :: v159 :: v160 :: v161 :: v162 :: v163 :: v164 :: v165 :: v166 :: v167 :: v168 :: v169 :: v170 :: v171 :: v172 :: v173 :: v174 :: v175 :: v176 :: v177 :: v178 :: v179 :: v180 :: v181 :: v182 :: v183 :: v184 :: v185 :: v186 :: v187 :: v188 :: v189 :: v190 :: v191 :: v192 :: v193 :: v194 :: v195 :: v196 :: v197 :: v198 :: v199 :: v200 :: v201 :: v202 :: v203 :: v204 :: v205 :: v206 :: v207 :: v208 :: v209 :: v210 :: v211 :: v212 :: v213 :: v214 :: v215 :: v216 :: v217 :: v218 :: v219 :: v220 :: v221 :: v222 :: v223 :: v224 :: v225 :: v226 :: v227 :: v228 :: v229 :: v230 :: v231 :: v232 :: v233 :: v234 :: v235 :: v236 :: v237 :: v238 :: v239 :: v240 :: v241 :: v242 :: v243 :: v244 :: v245 :: v246 :: v247 :: v248 :: v249 :: v250 :: v251 :: v252 :: v253 :: v254 :: v255 :: v256 :: v257 :: v258 :: v259 :: v260 :: v261 :: v262 :: v263 :: v264 :: v265 :: v266 :: v267 :: v268 :: v269 :: v270 :: v271 :: v272 :: v273 :: v274 :: v275 :: v276 :: v277 :: v278 :: v279 :: v280 :: v281 :: v282 :: v283 :: v284 :: v285 :: v286 :: v287 :: v288 :: v289 :: v290 :: v291 :: v292 :: v293 :: v294 :: v295 :: v296 :: v297 :: v298 :: v299 :: v300 :: v301 :: v302 :: v303 :: v304 :: v305 :: v306 :: v307 :: v308 :: v309 :: v310 :: []), []⟩ w') :
    Code.wp Tryd.prog swCode (Exit.then K Q) ⟨List.toArray (u0 :: u1 :: u2 :: .slice (some ⟨gr, 0, none⟩) m c1 :: .slice (some ⟨gw, 0, none⟩) m c2 :: u5 :: .pointer (some ⟨gs, 0, none⟩) :: .int .i64 (da : Nat) :: .int .i64 (db : Nat) :: .int .i64 0 :: u10 :: u11 :: u12 :: u13 :: u14 :: u15 :: u16 :: u17 :: u18 :: u19 :: u20 :: u21 :: u22 :: u23 :: u24 :: u25 :: u26 :: u27 :: u28 :: u29 :: u30 :: u31 :: u32 :: u33 :: u34 :: u35 :: u36 :: u37 :: u38 :: u39 :: u40 :: u41 :: u42 :: u43 :: u44 :: u45 :: u46 :: u47 :: u48 :: u49 :: u50 :: u51 :: u52 :: u53 :: u54 :: u55 :: u56 :: .pointer (some ⟨gs, 0, none⟩) :: .int .i64 t :: u59 :: u60 :: u61 :: u62 :: u63 :: u64 :: u65 :: u66 :: u67 :: u68 :: u69 :: u70 :: u71 :: u72 :: u73 :: u74 :: u75 :: u76 :: u77 :: u78 :: u79 :: u80 :: u81 :: u82 :: u83 :: u84 :: u85 :: u86 :: u87 :: u88 :: u89 :: u90 :: u91 :: u92 :: u93 :: u94 :: u95 :: u96 :: u97 :: u98 :: u99 :: u100 :: u101 :: u102 :: u103 :: u104 :: u105 :: u106 :: u107 :: u108 :: u109 :: u110 :: u111 :: u112 :: u113 :: u114 :: u115 :: u116 :: u117 :: u118 :: u119 :: u120 :: u121 :: u122 :: u123 :: u124 :: u125 :: u126 :: u127 :: u128 :: u129 :: u130 :: u131 :: u132 :: u133 :: u134 :: u135 :: u136 :: u137 :: u138 :: u139 :: u140 :: u141 :: u142 :: u143 :: u144 :: u145 :: u146 :: u147 :: u148 :: u149 :: u150 :: u151 :: u152 :: u153 :: u154 :: u155 :: u156 :: u157 :: u158 :: u159 :: u160 :: u161 :: u162 :: u163 :: u164 :: u165 :: u166 :: u167 :: u168 :: u169 :: u170 :: u171 :: u172 :: u173 :: u174 :: u175 :: u176 :: u177 :: u178 :: u179 :: u180 :: u181 :: u182 :: u183 :: u184 :: u185 :: u186 :: u187 :: u188 :: u189 :: u190 :: u191 :: u192 :: u193 :: u194 :: u195 :: u196 :: u197 :: u198 :: u199 :: u200 :: u201 :: u202 :: u203 :: u204 :: u205 :: u206 :: u207 :: u208 :: u209 :: u210 :: u211 :: u212 :: u213 :: u214 :: u215 :: u216 :: u217 :: u218 :: u219 :: u220 :: u221 :: u222 :: u223 :: u224 :: u225 :: u226 :: u227 :: u228 :: u229 :: u230 :: u231 :: u232 :: u233 :: u234 :: u235 :: u236 :: u237 :: u238 :: u239 :: u240 :: u241 :: u242 :: u243 :: u244 :: u245 :: u246 :: u247 :: u248 :: u249 :: u250 :: u251 :: u252 :: u253 :: u254 :: u255 :: u256 :: u257 :: u258 :: u259 :: u260 :: u261 :: u262 :: u263 :: u264 :: u265 :: u266 :: u267 :: u268 :: u269 :: u270 :: u271 :: u272 :: u273 :: u274 :: u275 :: u276 :: u277 :: u278 :: u279 :: u280 :: u281 :: u282 :: u283 :: u284 :: u285 :: u286 :: u287 :: u288 :: u289 :: u290 :: u291 :: u292 :: u293 :: u294 :: u295 :: u296 :: u297 :: u298 :: u299 :: u300 :: u301 :: u302 :: u303 :: u304 :: u305 :: u306 :: u307 :: u308 :: u309 :: u310 :: []), []⟩ w1 := by
  obtain ⟨hP, hlm, hDD, hla, hlb, hdoor, hsi, hsl, hno, hsmc, hscm, hm81, hm1, hmk, hk40⟩ := H
  unfold maxLen at hscm
  have HK := Lib.hid hK
  have HP1 := Lib.hid hP
  have HLM := Lib.hid hlm
  have DD := Lib.hid hDD
  have HD := Lib.hid hdoor
  have HSI := Lib.hid hsi
  have HSL := Lib.hid hsl
  have HNO := Lib.hid hno
  have HMK := Lib.hid hmk
  have hda : da < m := by rw [← hlm]; exact (List.getElem?_eq_some_iff.1 hla).1
  have hdb : db < m := by rw [← hlm]; exact (List.getElem?_eq_some_iff.1 hlb).1
  have d0 : w1.cell? ⟨gs, 0, none⟩ = some (.int .i64 t) := DD.out.cell 0
  have d2 : w1.cell? ⟨gs, 2, none⟩ = some (.int .i64 y) := DD.out.cell 2
  have d3 : w1.cell? ⟨gs, 3, none⟩ = some (.slice SA sm sc) := DD.out.cell 3
  have ra := HP1.out.cellR HLM.out hla
  have rb := HP1.out.cellR HLM.out hlb
  have wa := HP1.out.cellW HLM.out hla
  have wb := HP1.out.cellW HLM.out hlb
  have hQa := HP1.out.ok _ (List.mem_of_getElem? hla)
  have hQb := HP1.out.ok _ (List.mem_of_getElem? hlb)
  have HLA := Lib.hid hla
  have HLB := Lib.hid hlb
  simp only at ra rb wa wb
  have hsza := hQa.sz
  have hszb := hQb.sz
  have hnca := hQa.nc
  have hcma := hQa.cm
  unfold maxLen at hcma
  simp only at hsza hszb hnca hcma
  have HQA := Lib.hid hQa
  have HQB := Lib.hid hQb
  clear hK hP hlm hDD hdoor hsi hsl hno hmk hla hlb hQa hQb
  have za0 : (0 : Int) ≤ (da : Int) := by omega
  have za1 : (da : Int) < (m : Int) := by omega
  have zb0 : (0 : Int) ≤ (db : Int) := by omega
  have zb1 : (db : Int) < (m : Int) := by omega
  simp only [swCode, tailCode, roundCode, cBody, cFst, cSnd, cArm, Tryd.f4]
  have q0' : (t == 0) = false := by simpa using q0
  have q1' : (t == 1) = false := by simpa using q1
  have q2' : (t == 2) = false := by simpa using q2
  have q3' : (t == 3) = false := by simpa using q3
  clear q0 q1 q2 q3
  rcases hy with hy1 | ⟨hy1, hy2⟩
  all_goals
    go_wp2
    go_quiet (fail)
    have HP2 := Lib.hid (HP1.out.ext (below_drewN' (Below.refl _ _) nq))
    have HQA2 := Lib.hid (HQA.out.ext (below_drewN' (Below.refl _ _) nq))
    have HQB2 := Lib.hid (HQB.out.ext (below_drewN' (Below.refl _ _) nq))
    have DD2 : Hid (Blk (w1.drewN nq) gs _ _) := DD.out.drewN nq
    have ra2 := HP2.out.cellR HLM.out HLA.out
    have rb2 := HP2.out.cellR HLM.out HLB.out
    have wa2 := HP2.out.cellW HLM.out HLA.out
    have wb2 := HP2.out.cellW HLM.out HLB.out
    have d22 : (w1.drewN nq).cell? ⟨gs, 2, none⟩ = some (.int .i64 y) := DD2.out.cell 2
    generalize w1.drewN nq = w2 at HP2 HQA2 HQB2 DD2 ra2 rb2 wa2 wb2 d22 ⊢
    clear ra rb wa wb d0 d2 d3
    simp only at ra2 rb2 wa2 wb2
    go_wp2
    go_quiet ((go_at_call 26; exact Calls.quiet_of_same ((at_no _ pa ta y ((HQA2.out.ext (below_drewN' (Below.refl _ _) _)).seq) (by omega)).mono fun _ _ ⟨p, q⟩ => ⟨p, q.symm⟩)))
    go_wp2_with fail
    refine (same_errno _ 1 1 ((HD.out.new HP2.out.bel).new (below_drewN' (Below.refl _ _) _)) true rfl).mono ?_
    rintro e w5 ⟨rfl, hb5⟩
    have HP5 := Lib.hid ((HP2.out.ext (below_drewN' (Below.refl _ _) _)).ext hb5)
    clear hb5
    go_wp2
    exact HK.out _ _ _ _ _ _ _ _ _ _ _ _ _ _ _ _ _ _ _ _ _ _ _ _ _ _ _ _ _ _ _ _ _ _ _ _ _ _ _ _ _ _ _ _ _ _ _ _ _ _ _ _ _ _ _ _ _ _ _ _ _ _ _ _ _ _ _ _ _ _ _ _ _ _ _ _ _ _ _ _ _ _ _ _ _ _ _ _ _ _ _ _ _ _ _ _ _ _ _ _ _ _ _ _ _ _ _ _ _ _ _ _ _ _ _ _ _ _ _ _ _ _ _ _ _ _ _ _ _ _ _ _ _ _ _ _ _ _ _ _ _ _ _ _ _ _ _ _ _ _ _ _ _ _ _ _ _ _ _ _ _ _ _ _ _ _ _ _ _ _ _ _ _ _ _ _ _ _ _ _ _ _ _ _ _ _ _ _ _ _ _ _ _ _ _ _ _ _ _ _ _ _ _ _ _ _ _ _ _ _ _ _ _ _ _ _ _ _ _ _ _ _ _ _ _ _ _ _ _ _ _ _ _ _ _ _ _ _ _ _ _ _ _ _ _ _ _ _ _ _ _ _ _ _ _ _ _ _ _ _ _ _ _ _ _ _ _ _ _ _ _ _ _ _ _ ⟨m, _, c1, _, c2, hm81, hm1, rfl, rfl, L, HLM.out, HP5.out, hm1, by have := HMK.out; omega⟩
end Go.Proofs.YtenjblonepegfaaDoor

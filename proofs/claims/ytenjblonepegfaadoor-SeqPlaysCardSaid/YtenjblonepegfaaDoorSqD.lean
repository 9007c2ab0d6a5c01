/-
  A case of SeqPlays' switch. Conditions: the state is as 'SwAt' says.
-/
import Derived.Test.YtenjblonepegfaaDoorSq9
import Derived.Deep.CutBlock
import Derived.Deep.DeepCutAuto
import Derived.StillTailTactics
namespace Go.Proofs.YtenjblonepegfaaDoor
open Go Go.RowKit SQ
set_option linter.unusedVariables false
set_option maxRecDepth 100000 in
set_option maxHeartbeats 4000000 in
theorem sw_D (u0 u1 u2 u5 u10 u11 u12 u13 u14 u15 u16 u17 u18 u19 u20 u21 u22 u23 u24 u25 u26 u27 u28 u29 u30 u31 u32 u33 u34 u35 u36 u37 u38 u39 u40 u41 u42 u43 u44 u45 u46 u47 u48 u49 u50 u51 u52 u53 u54 u55 u56 u59 u60 u61 u62 u63 u64 u65 u66 u67 u68 u69 u70 u71 u72 u73 u74 u75 u76 u77 u78 u79 u80 u81 u82 u83 u84 u85 u86 u87 u88 u89 u90 u91 u92 u93 u94 u95 u96 u97 u98 u99 u100 u101 u102 u103 u104 u105 u106 u107 u108 u109 u110 u111 u112 u113 u114 u115 u116 u117 u118 u119 u120 u121 u122 u123 u124 u125 u126 u127 u128 u129 u130 u131 u132 u133 u134 u135 u136 u137 u138 u139 u140 u141 u142 u143 u144 u145 u146 u147 u148 u149 u150 u151 u152 u153 u154 u155 u156 u157 u158 u159 u160 u161 u162 u163 u164 u165 u166 u167 u168 u169 u170 u171 u172 u173 u174 u175 u176 u177 u178 u179 u180 u181 u182 u183 u184 u185 u186 u187 u188 u189 u190 u191 u192 u193 u194 u195 u196 u197 u198 u199 u200 u201 u202 u203 u204 u205 u206 u207 u208 u209 u210 u211 u212 u213 u214 u215 u216 u217 u218 u219 u220 u221 u222 u223 u224 u225 u226 u227 u228 u229 u230 u231 u232 u233 u234 u235 u236 u237 u238 u239 u240 u241 u242 u243 u244 u245 u246 u247 u248 u249 u250 u251 u252 u253 u254 u255 u256 u257 u258 u259 u260 u261 u262 u263 u264 u265 u266 u267 u268 u269 u270 u271 u272 u273 u274 u275 u276 u277 u278 u279 u280 u281 u282 u283 u284 u285 u286 u287 u288 u289 u290 u291 u292 u293 u294 u295 u296 u297 u298 u299 u300 u301 u302 u303 u304 u305 u306 u307 u308 u309 u310 : Value) (W w1 : World) (k m gr c1 gw c2 gs da db : Nat) (t x y : Int) (SA : Option Addr) (sm sc : Nat) (sl : List Int) (L : List QR) (pa Aa pb Ab : Option Addr) (ta tb : T) (ca cb : Nat)
    (H : SwAt W w1 k m gr c1 gw c2 gs da db t x y SA sm sc sl L pa Aa pb Ab ta tb ca cb) (q12 : t = 1 ∨ t = 2) (c400 : ¬ 400 < ta.size + tb.size) (K : Act → World → Prop) (Q : Exit → Act → World → Prop)
    (hK : ∀ (v9 v10 v11 v12 v13 v14 v15 v16 v17 v18 v19 v20 v21 v22 v23 v24 v25 v26 v57 v58 v59 v60 v61 v62 v63 v64 v65 v66 v67 v68 v69 v70 v71 v72 v73 v74 v75 v76 v77 v78 v79 v80 v81 v82 v83 v84 v85 v86 v87 v88 v89 v90 v91 v92 v93 v94 v95 v96 v97 v98 v99 v100 v101 v102 v103 v104 v105 v106 v107 v108 v109 v110 v111 v112 v113 v114 v115 v116 v117 v118 v119 v120 v121 v122 v123 v124 v125 v126 v127 v128 v129 v130 v131 v132 v133 v134 v135 v136 v137 v138 v139 v140 v141 v142 v143 v144 v145 v146 v147 v148 v149 v150 v151 v152 v153 v154 v155 v156 v157 v158 v159 v160 v161 v162 v163 v164 v165 v166 v167 v168 v169 v170 v171 v172 v173 v174 v175 v176 v177 v178 v179 v180 v181 v182 v183 v184 v185 v186 v187 v188 v189 v190 v191 v192 v193 v194 v195 v196 v197 v198 v199 v200 v201 v202 v203 v204 v205 v206 v207 v208 v209 v210 v211 v212 v213 v214 v215 v216 v217 v218 v219 v220 v221 v222 v223 v224 v225 v226 v227 v228 v229 v230 v231 v232 v233 v234 v235 v236 v237 v238 v239 v240 v241 v242 v243 v244 v245 v246 v247 v248 v249 v250 v251 v252 v253 v254 v255 v256 v257 v258 v259 v260 v261 v262 v263 v264 v265 v266 v267 v268 v269 v270 v271 v272 v273 v274 v275 v276 v277 v278 v279 v280 v281 v282 v283 v284 v285 v286 v287 v288 v289 v290 v291 v292 v293 v294 v295 v296 v297 v298 v299 v300 v301 v302 v303 v304 v305 v306 v307 v308 v309 v310 s3 s4 : Value) (w' : World), SwRel W k s3 s4 w' → K ⟨List.toArray (u0 :: u1 :: u2 :: s3 :: s4 :: u5 :: .pointer (some ⟨gs, 0, none⟩) :: .int .i64 (da : Nat) :: .int .i64 (db : Nat) :: v9 :: v10 :: v11 :: v12 :: v13 :: v14 :: v15 :: v16 :: v17 :: v18 :: v19 :: v20 :: v21 :: v22 :: v23 :: v24 :: v25 :: v26 :: u27 :: u28 :: u29 :: u30 :: u31 :: u32 :: u33 :: u34 :: u35 :: u36 :: u37 :: u38 :: u39 :: u40 :: u41 :: u42 :: u43 :: u44 :: u45 :: u46 :: u47 :: u48 :: u49 :: u50 :: u51 :: u52 :: u53 :: u54 :: u55 :: u56 :: v57 :: v58 :: v59 :: v60 :: v61 :: v62 :: v63 :: v64 :: v65 :: v66 :: v67 :: v68 :: v69 :: v70 :: v71 :: v72 :: v73 :: v74 :: v75 :: v76 :: v77 :: v78 :: v79 :: v80 :: v81 :: v82 :: v83 :: v84 :: v85 :: v86 :: v87 :: v88 :: v89 :: v90 :: v91 :: v92 :: v93 :: v94 :: v95 :: v96 :: v97 :: v98 :: v99 :: v100 :: v101 :: v102 :: v103 :: v104 :: v105 :: v106 :: v107 :: v108 :: v109 :: v110 :: v111 :: v112 :: v113 :: v114 :: v115 :: v116 :: v117 :: v118 :: v119 :: v120 :: v121 :: v122 :: v123 :: v124 :: v125 :: v126 :: v127 :: v128 :: v129 :: v130 :: v131 :: v132 :: v133 :: v134 :: v135 :: v136 :: v137 :: v138 :: v139 :: v140 :: v141 :: v142 :: v143 :: v144 :: v145 :: v146 :: v147 :: v148 :: v149 :: v150 :: v151 :: v152 :: v153 :: v154 :: v155 :: v156 :: v157 :: v158 :: v159 :: v160 :: v161 :: v162 :: v163 :: v164 :: v165 :: v166 :: v167 :: v168 :: v169 :: v170 :: v171 :: v172 :: v173 :: v174 :: v175 :: v176 :: v177 :: v178 :: v179 :: v180 :: v181 :: v182 :: v183 :: v184 :: v185 :: v186 :: v187 :: v188 :: v189 :: v190 :: v191 :: v192 :: v193 :: v194 :: v195 :: v196 :: v197 :: v198 :: v199 :: v200 :: v201 :: v202 :: v203 :: v204 :: v205 :: v206 :: v207 :: v208 :: v209 :: v210 :: v211 :: v212 :: v213 :: v214 :: v215 :: v216 :: v217 :: v218 :: v219 :: v220 :: v221 :: v222 :: v223 :: v224 :: v225 :: v226 :: v227 :: v228 :: v229 :: v230 :: v231 :: v232 :: v233 :: v234 :: v235 :: v236 :: v237 :: v238 :: v239 :: v240 :: v241 :: v242 :: v243 :: v244 :: v245 :: v246 :: v247 :: v248 :: v249 :: v250 :: v251 :: v252 :: v253 :: v254 :: v255 :: v256 :: v257 :: v258 :: v259 :: v260 :: v261 :: v262 :: v263 :: v264 :: v265 :: v266 :: v267 :: v268 :: v269 :: v270 :: v271 :: v272 :: v273 :: v274 :: v275 :: v276 :: v277 :: v278 :: v279 :: v280 :: v281 :: v282 :: v283 :: v284 :: v285 :: v286 :: v287 :: v288 :: v289 :: v290 :: v291 :: v292 :: v293 :: v294 :: v295 :: v296 :: v297 :: v298 :: v299 :: v300 :: v301 :: v302 :: v303 :: v304 :: v305 :: v306 :: v307 :: v308 :: v309 :: v310 :: []), []⟩ w') :
    Code.wp Tryd.prog swCode (Exit.then K Q) ⟨List.toArray (u0 :: u1 :: u2 :: .slice (some ⟨gr, 0, none⟩) m c1 :: .slice (some ⟨gw, 0, none⟩) m c2 :: u5 :: .pointer (some ⟨gs, 0, none⟩) :: .int .i64 (da : Nat) :: .int .i64 (db : Nat) :: .int .i64 0 :: u10 :: u11 :: u12 :: u13 :: u14 :: u15 :: u16 :: u17 :: u18 :: u19 :: u20 :: u21 :: u22 :: u23 :: u24 :: u25 :: u26 :: u27 :: u28 :: u29 :: u30 :: u31 :: u32 :: u33 :: u34 :: u35 :: u36 :: u37 :: u38 :: u39 :: u40 :: u41 :: u42 :: u43 :: u44 :: u45 :: u46 :: u47 :: u48 :: u49 :: u50 :: u51 :: u52 :: u53 :: u54 :: u55 :: u56 :: .pointer (some ⟨gs, 0, none⟩) :: .int .i64 t :: u59 :: u60 :: u61 :: u62 :: u63 :: u64 :: u65 :: u66 :: u67 :: u68 :: u69 :: u70 :: u71 :: u72 :: u73 :: u74 :: u75 :: u76 :: u77 :: u78 :: u79 :: u80 :: u81 :: u82 :: u83 :: u84 :: u85 :: u86 :: u87 :: u88 :: u89 :: u90 :: u91 :: u92 :: u93 :: u94 :: u95 :: u96 :: u97 :: u98 :: u99 :: u100 :: u101 :: u102 :: u103 :: u104 :: u105 :: u106 :: u107 :: u108 :: u109 :: u110 :: u111 :: u112 :: u113 :: u114 :: u115 :: u116 :: u117 :: u118 :: u119 :: u120 :: u121 :: u122 :: u123 :: u124 :: u125 :: u126 :: u127 :: u128 :: u129 :: u130 :: u131 :: u132 :: u133 :: u134 :: u135 :: u136 :: u137 :: u138 :: u139 :: u140 :: u141 :: u142 :: u143 :: u144 :: u145 :: u146 :: u147 :: u148 :: u149 :: u150 :: u151 :: u152 :: u153 :: u154 :: u155 :: u156 :: u157 :: u158 :: u159 :: u160 :: u161 :: u162 :: u163 :: u164 :: u165 :: u166 :: u167 :: u168 :: u169 :: u170 :: u171 :: u172 :: u173 :: u174 :: u175 :: u176 :: u177 :: u178 :: u179 :: u180 :: u181 :: u182 :: u183 :: u184 :: u185 :: u186 :: u187 :: u188 :: u189 :: u190 :: u191 :: u192 :: u193 :: u194 :: u195 :: u196 :: u197 :: u198 :: u199 :: u200 :: u201 :: u202 :: u203 :: u204 :: u205 :: u206 :: u207 :: u208 :: u209 :: u210 :: u211 :: u212 :: u213 :: u214 :: u215 :: u216 :: u217 :: u218 :: u219 :: u220 :: u221 :: u222 :: u223 :: u224 :: u225 :: u226 :: u227 :: u228 :: u229 :: u230 :: u231 :: u232 :: u233 :: u234 :: u235 :: u236 :: u237 :: u238 :: u239 :: u240 :: u241 :: u242 :: u243 :: u244 :: u245 :: u246 :: u247 :: u248 :: u249 :: u250 :: u251 :: u252 :: u253 :: u254 :: u255 :: u256 :: u257 :: u258 :: u259 :: u260 :: u261 :: u262 :: u263 :: u264 :: u265 :: u266 :: u267 :: u268 :: u269 :: u270 :: u271 :: u272 :: u273 :: u274 :: u275 :: u276 :: u277 :: u278 :: u279 :: u280 :: u281 :: u282 :: u283 :: u284 :: u285 :: u286 :: u287 :: u288 :: u289 :: u290 :: u291 :: u292 :: u293 :: u294 :: u295 :: u296 :: u297 :: u298 :: u299 :: u300 :: u301 :: u302 :: u303 :: u304 :: u305 :: u306 :: u307 :: u308 :: u309 :: u310 :: []), []⟩ w1 := by
  obtain ⟨hP, hlm, hDD, hla, hlb, hdoor, hsi, hsl, hno, hsmc, hscm, hm81, hm1, hmk, hk40⟩ := H
  unfold maxLen at hscm
  have HK := Lib.hid hK
  have HP1 := Lib.hid hP
  have HLM := Lib.hid hlm
  have DD := Lib.hid hDD
  have HD := Lib.hid hdoor
  have HSI := Lib.hid hsi
  have HSL := Lib.hid hsl
  have HNO := Lib.hid hno
  have HMK := Lib.hid hmk
  have hda : da < m := by rw [← hlm]; exact (List.getElem?_eq_some_iff.1 hla).1
  have hdb : db < m := by rw [← hlm]; exact (List.getElem?_eq_some_iff.1 hlb).1
  have d0 : w1.cell? ⟨gs, 0, none⟩ = some (.int .i64 t) := DD.out.cell 0
  have d2 : w1.cell? ⟨gs, 2, none⟩ = some (.int .i64 y) := DD.out.cell 2
  have d3 : w1.cell? ⟨gs, 3, none⟩ = some (.slice SA sm sc) := DD.out.cell 3
  have ra := HP1.out.cellR HLM.out hla
  have rb := HP1.out.cellR HLM.out hlb
  have wa := HP1.out.cellW HLM.out hla
  have wb := HP1.out.cellW HLM.out hlb
  have hQa := HP1.out.ok _ (List.mem_of_getElem? hla)
  have hQb := HP1.out.ok _ (List.mem_of_getElem? hlb)
  have HLA := Lib.hid hla
  have HLB := Lib.hid hlb
  simp only at ra rb wa wb
  have hsza := hQa.sz
  have hszb := hQb.sz
  have hnca := hQa.nc
  have hcma := hQa.cm
  unfold maxLen at hcma
  simp only at hsza hszb hnca hcma
  have HQA := Lib.hid hQa
  have HQB := Lib.hid hQb
  clear hK hP hlm hDD hdoor hsi hsl hno hmk hla hlb hQa hQb
  have za0 : (0 : Int) ≤ (da : Int) := by omega
  have za1 : (da : Int) < (m : Int) := by omega
  have zb0 : (0 : Int) ≤ (db : Int) := by omega
  have zb1 : (db : Int) < (m : Int) := by omega
  simp only [swCode, tailCode, roundCode, cBody, cFst, cSnd, cArm, Tryd.f4]
  rcases q12 with q12 | q12
  all_goals
    subst q12
    have z400 : ¬ (400 : Int) < (ta.size : Int) + (tb.size : Int) := by omega
    go_wp2
    go_quiet (fail)
    have HP2 := Lib.hid (HP1.out.ext (below_drewN' (Below.refl _ _) nq))
    have HQA2 := Lib.hid (HQA.out.ext (below_drewN' (Below.refl _ _) nq))
    have HQB2 := Lib.hid (HQB.out.ext (below_drewN' (Below.refl _ _) nq))
    have DD2 : Hid (Blk (w1.drewN nq) gs _ _) := DD.out.drewN nq
    have ra2 := HP2.out.cellR HLM.out HLA.out
    have rb2 := HP2.out.cellR HLM.out HLB.out
    have wa2 := HP2.out.cellW HLM.out HLA.out
    have wb2 := HP2.out.cellW HLM.out HLB.out
    have d22 : (w1.drewN nq).cell? ⟨gs, 2, none⟩ = some (.int .i64 y) := DD2.out.cell 2
    generalize w1.drewN nq = w2 at HP2 HQA2 HQB2 DD2 ra2 rb2 wa2 wb2 d22 ⊢
    clear ra rb wa wb d0 d2 d3
    simp only at ra2 rb2 wa2 wb2
    clear d22
    go_wp2
    go_region_held3 (fun w' => w'.cell? ⟨gr, da, none⟩ = some (.pointer pa) ∧ w'.cell? ⟨gr, db, none⟩ = some (.pointer pb)) (go_keep)
      ((go_at_call 24; refine (sjoin_yes _ pa pb ta tb ((HQA2.out.ext (Below.refl _ _).drew).seq) ((HQB2.out.ext (Below.refl _ _).drew).seq) (by omega)).mono ?_; rintro e w4 ⟨t', p', ⟨ht1, ht2⟩, rfl, hs4, he4⟩; have HP4 := Lib.hid ((HP2.out.ext (Below.refl _ _).drew).ext he4); have HT1 := Lib.hid ht1; have HT2 := Lib.hid (ht2 ⟨HQA.out.bal, HQB.out.bal⟩); have HS4 := Lib.hid hs4; have p0 : w4.cell? ⟨gr, da, none⟩ = some (.pointer pa) := HP4.out.cellR HLM.out HLA.out; have p1 : w4.cell? ⟨gr, db, none⟩ = some (.pointer pb) := HP4.out.cellR HLM.out HLB.out; clear hs4 he4 ht1 ht2))
    clear p0 p1 ra2 rb2 wa2 wb2
    go_wp2_with fail
    refine (same_nil w4 0 true rfl).mono ?_
    rintro e w5 ⟨rfl, hb5⟩
    have HP5 := Lib.hid (HP4.out.ext hb5)
    have HS5 := Lib.hid (HS4.out.ext hb5)
    have wa5 := HP5.out.cellW HLM.out HLA.out
    have wb5 := HP5.out.cellW HLM.out HLB.out
    have HA5 := Lib.hid (HP5.out.ok _ (List.mem_of_getElem? HLA.out))
    have HB5 := Lib.hid (HP5.out.ok _ (List.mem_of_getElem? HLB.out))
    clear hb5
    simp only at wa5 wb5
    go_upto_region 42 with (at_builtin; go_loud (refine wpList_append_rows _ rfl (.tmp 178) (.tmp 182) 34 rfl 3 _ 1 8 Tryd.underlying34 infoInt' rfl (by decide) (.slice none 0 0) 0 [] rfl (World.ownsRow_nil _ _ _ _) Aa ta.size ca (ta.list.map (Value.int .i64)) rfl (by simp [T.len]) HA5.out.no (ints_src HA5.out.ints.1) map_one ⟨by omega, by omega⟩ ?_); intro A6 c6 w6 ho6 hc6 hg6; have HO6 := Lib.hid ho6; have HC6 := Lib.hid hc6; have HG6 := Lib.hid hg6; clear ho6 hc6 hg6)
    have ho6 := HO6.out
    simp only [Nat.zero_add, List.nil_append] at ho6
    have HO6' := Lib.hid ho6
    have HB6 := Lib.hid (below_nil HC6.out)
    have hn6 : ∀ j, (Value.slice A6 ta.size c6).ownBlock = some j → w5.heap.size ≤ j := new_own (by have := HG6.out; simpa only [Nat.zero_add] using this)
    have HN6 := Lib.hid hn6
    have wb6 := (HP5.out.ext HB6.out).cellW HLM.out HLB.out
    simp only at wb6
    clear ho6 hn6 HO6 HC6 HG6 wa5 wb5
    go_upto_region 43 with (at_builtin; go_loud (refine wpList_append_rows _ rfl (.tmp 184) (.tmp 188) 34 rfl 3 _ 1 8 Tryd.underlying34 infoInt' rfl (by decide) (.slice A6 ta.size c6) ta.size (ta.list.map (Value.int .i64)) rfl HO6'.out Ab tb.size cb (tb.list.map (Value.int .i64)) rfl (by simp [T.len]) HB5.out.no (ints_src (HB5.out.ints.1.ext HB6.out)) map_one ⟨by omega, by omega⟩ ?_); intro A7 c7 w7 ho7 hc7 hg7; have HO7 := Lib.hid ho7; have HC7 := Lib.hid hc7; have HG7 := Lib.hid hg7; clear ho7 hc7 hg7)
    have ho7 := HO7.out
    rw [← List.map_append, ← HT1.out] at ho7
    have HO7' := Lib.hid ho7
    have hb7 : Below w5.heap.size w5 w7 := HB6.out.trans (HC7.out.below HB6.out.size (fun j _ hj => HN6.out j hj))
    have HP7 := Lib.hid (HP5.out.ext hb7)
    have HS7 := Lib.hid (HS5.out.ext hb7)
    have hr7 := HP7.out.rows
    have hw7 := HP7.out.want
    rw [HLM.out] at hr7 hw7
    have HR7 := Lib.hid hr7
    have HW7 := Lib.hid hw7
    clear ho7 hr7 hw7 hb7 HO7 HC7 HG7 wb6
    go_upto_region 44 with (at_builtin; go_loud (refine wpList_append_rows _ rfl (.tmp 190) (.tmp 192) 52 rfl 57 _ 1 8 Tryd.underlying52 infoPtrS rfl (by decide) (.slice (some ⟨gr, 0, none⟩) m c1) m _ rfl (HR7.out.alloc _) (some ⟨w7.heap.size, 0, none⟩) 1 1 [.pointer p'] rfl rfl (fun h => by cases h) (fun ad h j u hj => by injection h with h; subst h; exact news_cells rfl [.pointer p'] _ j u hj) (by simp [Value.oneCell']) ⟨by omega, by omega⟩ ?_); intro A8 c8 w8 ho8 hc8 hg8; have HO8 := Lib.hid ho8; have HC8 := Lib.hid hc8; have HG8 := Lib.hid hg8; clear ho8 hc8 hg8)
    have hw8 := own_chg (HW7.out.alloc (.cells #[.pointer p'] 57)) HC8.out (fun j hj hr => own_neq HW7.out HR7.out (by decide) hj hr)
    have HW8 := Lib.hid hw8
    clear hw8
    go_wp2_with (at_builtin; go_loud (refine wpList_append_rows _ rfl (.tmp 194) (.tmp 196) 53 rfl 34 _ 1 24 Tryd.underlying53 infoInts rfl (by decide) (.slice (some ⟨gw, 0, none⟩) m c2) m _ rfl (HW8.out.alloc _) (some ⟨w8.heap.size, 0, none⟩) 1 1 [.slice A7 (ta.size + tb.size) c7] rfl rfl (fun h => by cases h) (fun ad h j u hj => by injection h with h; subst h; exact news_cells rfl [.slice A7 (ta.size + tb.size) c7] _ j u hj) (by simp [Value.oneCell']) ⟨by omega, by omega⟩ ?_); intro A9 c9 w9 ho9 hc9 hg9; have HO9 := Lib.hid ho9; have HC9 := Lib.hid hc9; have HG9 := Lib.hid hg9; clear ho9 hc9 hg9)
    have HTL : Hid (t'.list.length = ta.size + tb.size) := by unfold Hid; rw [HT1.out, List.length_append, T.len, T.len]
    have HQ7 : Hid (QOk W.heap.size w7 ⟨p', t', A7, ta.size + tb.size, c7⟩) := by
      obtain ⟨_, _, hv, hcc⟩ := own_slice3 HO7'.out
      injection hv with _ _ hv
      subst hv
      exact ⟨HS7.out, HT2.out, by show t'.size ≤ 400; rw [← T.len, HTL.out]; omega, IMem.of_own HO7'.out, HTL.out, hcc, own_capmax HO7'.out, fun h => by subst h; exact own_none HO7'.out⟩
    have HN : Hid (PSt W w9 (.slice A8 (m + 1) c8) (.slice A9 (m + 1) c9) (L ++ [⟨p', t', A7, ta.size + tb.size, c7⟩])) := by
      have hl := HLM.out
      have h1 := HO8.out; have h2 := HC8.out; have h3 := HG8.out; have h4 := HO9.out; have h5 := HC9.out; have h6 := HG9.out
      have h0 := HP7.out
      rw [← hl] at h0 h1 h2 h3 h4 h5 h6 ⊢
      exact PSt.push h0 (X := [⟨p', t', A7, ta.size + tb.size, c7⟩]) (fun q hq => by simp at hq; subst hq; exact HQ7.out) rfl h1 h2 h3 _ ((Below.refl _ _).alloc (Nat.le_refl _) _) h4 h5 h6
    go_wp2
    exact HK.out _ _ _ _ _ _ _ _ _ _ _ _ _ _ _ _ _ _ _ _ _ _ _ _ _ _ _ _ _ _ _ _ _ _ _ _ _ _ _ _ _ _ _ _ _ _ _ _ _ _ _ _ _ _ _ _ _ _ _ _ _ _ _ _ _ _ _ _ _ _ _ _ _ _ _ _ _ _ _ _ _ _ _ _ _ _ _ _ _ _ _ _ _ _ _ _ _ _ _ _ _ _ _ _ _ _ _ _ _ _ _ _ _ _ _ _ _ _ _ _ _ _ _ _ _ _ _ _ _ _ _ _ _ _ _ _ _ _ _ _ _ _ _ _ _ _ _ _ _ _ _ _ _ _ _ _ _ _ _ _ _ _ _ _ _ _ _ _ _ _ _ _ _ _ _ _ _ _ _ _ _ _ _ _ _ _ _ _ _ _ _ _ _ _ _ _ _ _ _ _ _ _ _ _ _ _ _ _ _ _ _ _ _ _ _ _ _ _ _ _ _ _ _ _ _ _ _ _ _ _ _ _ _ _ _ _ _ _ _ _ _ _ _ _ _ _ _ _ _ _ _ _ _ _ _ _ _ _ _ _ _ _ _ _ _ _ _ _ _ _ _ _ _ _ _ ⟨m + 1, A8, c8, A9, c9, by have := HMK.out; omega, by omega, rfl, rfl, _, by rw [List.length_append, HLM.out]; rfl, HN.out, by omega, by have := HMK.out; omega⟩
end Go.Proofs.YtenjblonepegfaaDoor

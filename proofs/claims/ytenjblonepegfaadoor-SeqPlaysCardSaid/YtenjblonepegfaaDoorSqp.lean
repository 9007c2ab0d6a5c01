/-
  SeqPlays' walk. Conditions: the script is read as 'QStepsAt' says; errors.errorType's cell.
-/
import Derived.Test.YtenjblonepegfaaDoorSqSw
import Derived.Test.YtenjblonepegfaaDoorSqIn
namespace Go.Proofs.YtenjblonepegfaaDoor
open Go Go.RowKit SQ
set_option linter.unusedVariables false

set_option maxRecDepth 100000 in
set_option maxHeartbeats 4000000 in
theorem sqp_walk (a : Option Addr) (n cap : Nat) (s : Nat → QSt) (w : World) (hd : Td.Door w) (hs : QStepsAt w a n s ∧ n ≤ cap ∧ cap ≤ maxLen) :
    Calls Tryd.prog 4 #[.slice a n cap] w fun e w' => e = .returned (.bool true) ∧ Below w.heap.size w w' := by
  obtain ⟨hs, hnc, hcm⟩ := hs
  unfold maxLen at hcm
  have HS := Lib.hid hs
  have HD := Lib.hid hd
  clear hs hd
  go_enter Tryd.func4, Tryd.ntmps4
  go_wp2_with (first
    | (at_builtin; refine wpList_append_rows _ rfl (.tmp 27) (.tmp 28) 52 rfl 57 _ 1 8 Tryd.underlying52 infoPtrS rfl (by decide) (.slice none 0 0) 0 [] rfl (World.ownsRow_nil _ _ _ _) (some ⟨w.heap.size, 0, none⟩) 1 1 [.pointer none] rfl rfl (fun h => by cases h) (fun ad h j u hj => by injection h with h; subst h; exact news_cells rfl [.pointer none] _ j u hj) (by simp [Value.oneCell']) ⟨by omega, by omega⟩ ?_; intro A1 c1 w1 ho1 hc1 hg1; simp only [Nat.zero_add, List.nil_append] at ho1 hg1; have HO1 := Lib.hid ho1; have HC1 := Lib.hid hc1; have HG1 := Lib.hid hg1; clear ho1 hc1 hg1)
    | (at_builtin; refine wpList_append_rows _ rfl (.tmp 30) (.tmp 31) 53 rfl 34 _ 1 24 Tryd.underlying53 infoInts rfl (by decide) (.slice none 0 0) 0 [] rfl (World.ownsRow_nil _ _ _ _) (some ⟨w1.heap.size, 0, none⟩) 1 1 [.slice none 0 0] rfl rfl (fun h => by cases h) (fun ad h j u hj => by injection h with h; subst h; exact news_cells rfl [.slice none 0 0] _ j u hj) (by simp [Value.oneCell']) ⟨by omega, by omega⟩ ?_; intro A2 c2 w2 ho2 hc2 hg2; simp only [Nat.zero_add, List.nil_append] at ho2 hg2; have HO2 := Lib.hid ho2; have HC2 := Lib.hid hc2; have HG2 := Lib.hid hg2; clear ho2 hc2 hg2))
  have P0 : Hid (SqR w 0 1 (.slice A1 1 c1) (.slice A2 1 c2) w2) := by
    have := PSt.push (PSt.zero w) (X := [⟨none, .nil, none, 0, 0⟩]) (fun q hq => by simp at hq; subst hq; exact QOk.nil_ _ _) rfl (by simpa [ptrs] using HO1.out) HC1.out HG1.out _ ((Below.refl _ _).alloc (Nat.le_refl _) _) (by simpa [lists] using HO2.out) HC2.out HG2.out
    exact ⟨_, rfl, by simpa using this, by omega, by omega⟩
  clear HO1 HC1 HG1 HO2 HC2 HG2
  go_wp2
  go_loopw [3, 4, 5] (fun v3 v4 v5 wr => ∃ (k m : Nat) (A1 : Option Addr) (c1 : Nat) (A2 : Option Addr) (c2 : Nat), k ≤ 40 ∧ m ≤ 81 ∧ 1 ≤ m ∧ v5 = .int .i64 k ∧ v3 = .slice A1 m c1 ∧ v4 = .slice A2 m c2 ∧ Hid (SqR w k m (.slice A1 m c1) (.slice A2 m c2) wr)) (fun _ _ v5 _ => 40 - (intOf v5).toNat)
  case atStart => exact ⟨0, 1, A1, c1, A2, c2, by omega, by omega, by omega, rfl, rfl, rfl, P0.out⟩
  case round =>
    obtain ⟨k, m, A1, c1, A2, c2, hk40, hm81, hm1, rfl, rfl, rfl, HR⟩ := hrel
    by_cases hkn : k < n
    · by_cases hk : k < 40
      · obtain ⟨L, hLm, hP, _, hmk⟩ := HR.out
        have HLM := Lib.hid hLm
        have HP := Lib.hid hP
        have HMK := Lib.hid hmk
        have hrows := HP.out.rows
        have hwant := HP.out.want
        rw [HLM.out] at hrows hwant
        obtain ⟨gr, cr, hv, hcr, _⟩ := own_form hrows (by omega)
        simp only [Value.slice.injEq, true_and] at hv
        obtain ⟨rfl, rfl⟩ := hv
        obtain ⟨gw, cw, hv, hcw, _⟩ := own_form hwant (by omega)
        simp only [Value.slice.injEq, true_and] at hv
        obtain ⟨rfl, rfl⟩ := hv
        clear hrows hwant hLm hP hmk HR
        rcases HS.out with h0 | ⟨bs, off, rfl, hbl, hev⟩
        · omega
        have hst := hev k hkn
        generalize s k = st at hst
        obtain ⟨t, x, y, SA, sm, sc, sl⟩ := st
        obtain ⟨t0, t1, t2, t3, hsI, hsl, hsmc, hscm, hsno, hx64, hy64⟩ := hst
        simp only at t0 t1 t2 t3 hsI hsl hsmc hscm hsno hx64 hy64
        unfold maxLen at hscm
        have t0 := (HP.out.bel.cell (p := ⟨bs, off + k * 4, none⟩) hbl).trans t0
        have t1 := (HP.out.bel.cell (p := ⟨bs, off + k * 4 + 1, none⟩) hbl).trans t1
        have t2 := (HP.out.bel.cell (p := ⟨bs, off + k * 4 + 2, none⟩) hbl).trans t2
        have t3 := (HP.out.bel.cell (p := ⟨bs, off + k * 4 + 3, none⟩) hbl).trans t3
        have HSI := Lib.hid hsI
        have HSL := Lib.hid hsl
        have HNO := Lib.hid hsno
        have HX64 := Lib.hid hx64
        have HY64 := Lib.hid hy64
        have z0 : (0 : Int) ≤ (k : Int) := by omega
        have z1 : (k : Int) < (n : Int) := by omega
        clear hev hsI hsl hsno hx64 hy64
        have DD := Lib.hid (Blk.new wr 55 #[.int .i64 t, .int .i64 x, .int .i64 y, .slice SA sm sc])
        have HP1 := Lib.hid (HP.out.ext ((Below.refl _ _).alloc (Nat.le_refl _) (.cells #[.int .i64 t, .int .i64 x, .int .i64 y, .slice SA sm sc] 55)))
        go_wp2_with fail
        generalize wr.alloc (.cells #[.int .i64 t, .int .i64 x, .int .i64 y, .slice SA sm sc] 55) = w1 at DD HP1 ⊢
        refine (pick_any w1 x m HX64.out (by omega) (by omega)).mono ?_
        rintro e w' ⟨da, rfl, hda, rfl⟩
        have d0 : w1.cell? ⟨wr.heap.size, 0, none⟩ = some (.int .i64 t) := DD.out.cell 0
        have d1 : w1.cell? ⟨wr.heap.size, 1, none⟩ = some (.int .i64 x) := DD.out.cell 1
        have d2 : w1.cell? ⟨wr.heap.size, 2, none⟩ = some (.int .i64 y) := DD.out.cell 2
        have d3 : w1.cell? ⟨wr.heap.size, 3, none⟩ = some (.slice SA sm sc) := DD.out.cell 3
        go_wp2_with fail
        refine (pick_any w1 y m HY64.out (by omega) (by omega)).mono ?_
        rintro e w' ⟨db, rfl, hdb, rfl⟩
        obtain ⟨qa, hqa⟩ : ∃ q, L[da]? = some q := ⟨_, List.getElem?_eq_getElem (by have := HLM.out; omega)⟩
        obtain ⟨qb, hqb⟩ : ∃ q, L[db]? = some q := ⟨_, List.getElem?_eq_getElem (by have := HLM.out; omega)⟩
        have ra := HP1.out.cellR HLM.out hqa
        have rb := HP1.out.cellR HLM.out hqb
        have wa := HP1.out.cellW HLM.out hqa
        have wb := HP1.out.cellW HLM.out hqb
        have hQa := HP1.out.ok qa (List.mem_of_getElem? hqa)
        have hQb := HP1.out.ok qb (List.mem_of_getElem? hqb)
        have HLA := Lib.hid hqa
        have HLB := Lib.hid hqb
        clear hqa hqb
        obtain ⟨pa, ta, Aa, na, ca⟩ := qa
        obtain ⟨pb, tb, Ab, nb, cb⟩ := qb
        have hsa := hQa.len
        have hsb := hQb.len
        rw [T.len] at hsa hsb
        simp only at hsa hsb ra rb wa wb
        subst hsa; subst hsb
        have HSW : Hid (SwAt w w1 k m gr c1 gw c2 wr.heap.size da db t x y SA sm sc sl L pa Aa pb Ab ta tb ca cb) :=
          ⟨HP1.out, HLM.out, DD.out, HLA.out, HLB.out, HD.out, HSI.out, HSL.out, HNO.out, hsmc, by unfold maxLen; exact hscm, hm81, hm1, HMK.out, hk⟩
        clear hQa hQb ra rb wa wb t0 t1 t2 t3
        go_upto_block 2 with fail
        refine sw_any _ _ _ _ _ _ _ _ _ _ _ _ _ _ _ _ _ _ _ _ _ _ _ _ _ _ _ _ _ _ _ _ _ _ _ _ _ _ _ _ _ _ _ _ _ _ _ _ _ _ _ _ _ _ _ _ _ _ _ _ _ _ _ _ _ _ _ _ _ _ _ _ _ _ _ _ _ _ _ _ _ _ _ _ _ _ _ _ _ _ _ _ _ _ _ _ _ _ _ _ _ _ _ _ _ _ _ _ _ _ _ _ _ _ _ _ _ _ _ _ _ _ _ _ _ _ _ _ _ _ _ _ _ _ _ _ _ _ _ _ _ _ _ _ _ _ _ _ _ _ _ _ _ _ _ _ _ _ _ _ _ _ _ _ _ _ _ _ _ _ _ _ _ _ _ _ _ _ _ _ _ _ _ _ _ _ _ _ _ _ _ _ _ _ _ _ _ _ _ _ _ _ _ _ _ _ _ _ _ _ _ _ _ _ _ _ _ _ _ _ _ _ _ _ _ _ _ _ _ _ _ _ _ _ _ _ _ _ _ _ _ _ _ _ _ _ _ _ _ _ _ _ _ _ _ _ _ _ _ _ _ _ _ _ _ _ _ _ _ _ _ _ _ _ _ _ _ _ _ _ _ _ _ _ _ _ _ _ _ _ _ _ _ _ _ _ _ _ _ _ _ _ _ w w1 k m gr c1 gw c2 wr.heap.size da db t x y SA sm sc sl L pa Aa pb Ab ta tb ca cb HSW.out _ _ ?_
        intro v9 v10 v11 v12 v13 v14 v15 v16 v17 v18 v19 v20 v21 v22 v23 v24 v25 v26 v57 v58 v59 v60 v61 v62 v63 v64 v65 v66 v67 v68 v69 v70 v71 v72 v73 v74 v75 v76 v77 v78 v79 v80 v81 v82 v83 v84 v85 v86 v87 v88 v89 v90 v91 v92 v93 v94 v95 v96 v97 v98 v99 v100 v101 v102 v103 v104 v105 v106 v107 v108 v109 v110 v111 v112 v113 v114 v115 v116 v117 v118 v119 v120 v121 v122 v123 v124 v125 v126 v127 v128 v129 v130 v131 v132 v133 v134 v135 v136 v137 v138 v139 v140 v141 v142 v143 v144 v145 v146 v147 v148 v149 v150 v151 v152 v153 v154 v155 v156 v157 v158 v159 v160 v161 v162 v163 v164 v165 v166 v167 v168 v169 v170 v171 v172 v173 v174 v175 v176 v177 v178 v179 v180 v181 v182 v183 v184 v185 v186 v187 v188 v189 v190 v191 v192 v193 v194 v195 v196 v197 v198 v199 v200 v201 v202 v203 v204 v205 v206 v207 v208 v209 v210 v211 v212 v213 v214 v215 v216 v217 v218 v219 v220 v221 v222 v223 v224 v225 v226 v227 v228 v229 v230 v231 v232 v233 v234 v235 v236 v237 v238 v239 v240 v241 v242 v243 v244 v245 v246 v247 v248 v249 v250 v251 v252 v253 v254 v255 v256 v257 v258 v259 v260 v261 v262 v263 v264 v265 v266 v267 v268 v269 v270 v271 v272 v273 v274 v275 v276 v277 v278 v279 v280 v281 v282 v283 v284 v285 v286 v287 v288 v289 v290 v291 v292 v293 v294 v295 v296 v297 v298 v299 v300 v301 v302 v303 v304 v305 v306 v307 v308 v309 v310 s3 s4 w2 hrel
        obtain ⟨m', A1', c1', A2', c2', hm', hm1', rfl, rfl, L', hL', hP', hm1'', hmk'⟩ := hrel
        have hr' := hP'.rows
        have hw' := hP'.want
        rw [hL'] at hr' hw'
        obtain ⟨gr', cr', hv, hcr', _⟩ := own_form hr' (by omega)
        simp only [Value.slice.injEq, true_and] at hv
        obtain ⟨rfl, rfl⟩ := hv
        obtain ⟨gw', cw', hv, hcw', _⟩ := own_form hw' (by omega)
        simp only [Value.slice.injEq, true_and] at hv
        obtain ⟨rfl, rfl⟩ := hv
        have HL' := Lib.hid hL'
        have HP' := Lib.hid hP'
        clear hr' hw' hL' hP' d0 d1 d2 d3
        go_upto_block 3 with fail
        refine in_any _ _ _ _ _ _ _ _ _ _ _ _ _ _ _ _ _ _ _ _ _ _ _ _ _ _ _ _ _ _ _ _ _ _ _ _ _ _ _ _ _ _ _ _ _ _ _ _ _ _ _ _ _ _ _ _ _ _ _ _ _ _ _ _ _ _ _ _ _ _ _ _ _ _ _ _ _ _ _ _ _ _ _ _ _ _ _ _ _ _ _ _ _ _ _ _ _ _ _ _ _ _ _ _ _ _ _ _ _ _ _ _ _ _ _ _ _ _ _ _ _ _ _ _ _ _ _ _ _ _ _ _ _ _ _ _ _ _ _ _ _ _ _ _ _ _ _ _ _ _ _ _ _ _ _ _ _ _ _ _ _ _ _ _ _ _ _ _ _ _ _ _ _ _ _ _ _ _ _ _ _ _ _ _ _ _ _ _ _ _ _ _ _ _ _ _ _ _ _ _ _ _ _ _ _ _ _ _ _ _ _ _ _ _ _ _ _ _ _ _ _ _ _ _ _ _ _ _ _ _ _ _ _ _ _ _ _ _ _ _ _ _ _ _ _ _ _ _ _ _ _ _ _ _ _ _ _ _ _ _ _ _ _ _ _ _ _ _ _ _ _ _ _ _ _ _ _ _ _ _ _ _ _ _ _ _ _ _ _ _ _ _ _ _ _ _ _ _ _ _ _ _ _ _ _ _ _ _ w w2 m' gr' c1' gw' c2' L' HP'.out HL'.out (by omega) _ ?_
        intro x2 x25 x26 x265 x266 x267 x268 x269 x270 x271 x272 x273 x274 x275 x276 x277 x278 x279 x280 x281 x282 x283 x284 x285 x286 x287 x288 x289 x290 x291 x292 x293 x294 x295 x296 x297 x298 x299 x300 x301 x302 x303 x304 x305 x306 x307 x308 x309 x310 w3 hP3
        have HP3 := Lib.hid hP3
        clear hP3
        go_wp2
        go_roundw
        case rel => exact ⟨k + 1, m', _, _, _, _, by omega, hm', hm1', by go_num, rfl, rfl, L', HL'.out, HP3.out, hm1', by omega⟩
        case measure => simp [intOf]; omega
      · have h40 : k = 40 := by omega
        go_wp2
        go_ret
        obtain ⟨L, _, hP, _⟩ := HR.out
        exact ⟨rfl, hP.bel⟩
    · have hkn' : ¬ (k : Int) < (n : Int) := by omega
      go_wp2
      go_ret
      obtain ⟨L, _, hP, _⟩ := HR.out
      exact ⟨rfl, hP.bel⟩
end Go.Proofs.YtenjblonepegfaaDoor

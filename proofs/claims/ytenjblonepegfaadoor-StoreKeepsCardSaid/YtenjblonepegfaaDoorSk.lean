/-
  StoreKeeps' walk. Conditions: the script is read as 'FStepsAt' says; errors.errorType's cell.
-/
import Derived.Test.YtenjblonepegfaaDoorSk7
import Derived.Test.YtenjblonepegfaaDoorArg5
import Derived.Lib.SlBytesConst
import Derived.Deep.CutBlock
import Derived.Deep.DeepCutAuto
import Derived.StillTailTactics
namespace Go.Proofs.YtenjblonepegfaaDoor
open Go Go.RowKit
set_option linter.unusedVariables false

theorem str_hi : strOfNums [104, 105] = ⟨#[104, 105]⟩ := by decide
theorem str_none : strOfNums [] = ⟨#[]⟩ := by decide
theorem bytes_hi2 (w : World) (H : Nat) (hH : w.heap.size = H) (fz : Nat × Nat) : BytesAt (w.alloc (.cells #[.int .u8 104, .int .u8 105] 5 fz)) (some ⟨H, 0, none⟩) [104, 105] := by
  subst hH
  refine .inr ⟨_, 0, rfl, by simp, fun i v hv => ?_⟩
  rw [cell_of_row _ _ _ _ _ _ (heap_alloc_new w _)]
  match i, hv with
  | 0, hv => simp at hv; subst hv; rfl
  | 1, hv => simp at hv; subst hv; rfl
theorem fq_moved {W w w' : World} {u u' : Dsk} (hb : Below W.heap.size W w) (hf : ∀ k, u.fp k → W.heap.size ≤ k) (hm : DMoved w u u' w') : Below W.heap.size W w' ∧ ∀ k, u'.fp k → W.heap.size ≤ k :=
  ⟨hb.trans (hm.2.1.below hb.size (fun k _ hk => hf k hk)), fun k hk => by
    rcases hm.2.2 k hk with h | h
    · exact hf k h
    · have := hb.size; omega⟩
theorem sk_save_hi {W wr : World} {n gu gs : Nat} {d : DK.D} (h : SkR W n d gu gs 0 [] false none wr) (hn : 62 ≤ n) (hg : Good n d 0 []) (hl : d.left = -1) (fz : Nat × Nat) :
    Calls Tryd.prog 42 #[.pointer (some ⟨gs, 0, none⟩), .slice (some ⟨wr.heap.size, 0, none⟩) 2 2] (wr.alloc (.cells #[.int .u8 104, .int .u8 105] 5 fz)) fun e w' => e = .returned .nilIface ∧ ∃ d', SkR W n d' gu gs 1 [104, 105] false none w' ∧ Good n d' 1 [104, 105] := by
  have hx := Ext.alloc wr (.cells #[.int .u8 104, .int .u8 105] 5 fz)
  have h' := h.ext hx
  obtain ⟨u, v, h1, h2, h3, h4, h5⟩ := h'.all
  subst h2
  obtain ⟨u0, v0, k1, k2, k3, _, _⟩ := h.all
  have hlt : gs < wr.heap.size := k3.blk.lt
  refine (save_any _ u n d h1 gs 0 v [] h3 (by omega) (some ⟨wr.heap.size, 0, none⟩) 2 2 [104, 105] rfl (by omega) (by omega) (by unfold maxLen; omega) (bytes_hi2 wr _ rfl fz) (fun _ x hx => ?_) (by rw [hg.ws]; simp)).mono ?_
  · injection hx with hx; subst hx
    refine ⟨fun hf => ?_, by simp; omega⟩
    obtain ⟨t, cs, hb, ht⟩ := h1.typ hf
    unfold Blk at hb
    rw [heap_alloc_new] at hb
    injection hb with hb; injection hb with _ hb _
    subst hb
    revert ht; decide
  · rintro e w' ⟨u', v', rfl, q1, q2, q3, q4, q5⟩
    rcases save_law (c := [104, 105]) hn hg (by omega) (by simp) with ⟨r1, r2, r3⟩ | ⟨r1, r2, r3⟩
    · have r1' : (layR n d ((0 : Nat) + 1) [104, 105]).1 = none := r1
      rw [r1'] at q5 ⊢
      obtain ⟨q5, q6⟩ := q5
      exact ⟨rfl, _, h'.moved h1 rfl h4 (fun _ hk => hk) q3 q1 q2 q4 q5 (fun k hk => Nat.le_trans h'.bel.size (q6 k hk)), r2⟩
    · exact absurd hl r2
def SkRel (W : World) (n gu gs t : Nat) (b : List Int) (ar : Bool) (wr : World) : Prop := ∃ d, SkR W n d gu gs t b false none wr ∧ Good n d t b ∧ (ar = false → d.left = -1)
set_option maxRecDepth 100000 in
set_option maxHeartbeats 4000000 in
theorem sk_walk (pages : Int) (a : Option Addr) (n cap : Nat) (s : Nat → ESt) (w : World) (hd : Td.Door w) (hs : FStepsAt w a n s ∧ n ≤ cap ∧ cap ≤ maxLen) :
    Calls Tryd.prog 6 #[.int .i64 pages, .slice a n cap] w fun e w' => e = .returned (.bool true) ∧ Below w.heap.size w w' := by
  obtain ⟨hs, hnc, hcm⟩ := hs
  unfold maxLen at hcm
  have HS := Lib.hid hs
  have HD := Lib.hid hd
  clear hs hd
  have hcv := fun w => Lib.run_convert_bytes_const (P := Tryd.prog) w 33 5 #[.int .u8 104, .int .u8 105] 2 2 Tryd.underlying33 Tryd.underlying5
  go_enter Tryd.func6, Tryd.ntmps6
  go_wp2_with fail
  refine (dnew_yes w 80 (by decide) (by decide)).mono ?_
  rintro e w1 ⟨u, rfl, hu, hb1, hu2⟩
  have HU := Lib.hid hu
  have HU2 := Lib.hid hu2
  have HB1 := Lib.hid hb1
  clear hu hb1 hu2
  go_wp2_with fail
  refine (format_yes w1 u 80 HU.out (by decide)).mono ?_
  rintro e w2 ⟨u2, rfl, hu, hm⟩
  have HF2 := Lib.hid (fq_moved HB1.out HU2.out hm)
  have HU2' := Lib.hid hu
  have hg2 : u.g = u2.g := hm.1.symm
  rw [hg2]
  clear hu hm hg2 HU HU2 HB1
  go_wp2_with fail
  refine (sk_open0 u2 HU2'.out HF2.out.1 HF2.out.2 (by decide) (fmt_good (by decide)).1).mono ?_
  rintro e w3 ⟨gs, rfl, h3⟩
  have H3 := Lib.hid h3
  generalize u2.g = gu at H3 ⊢
  clear h3 HU2' HF2
  go_wp2_with fail
  refine (sk_save_hi H3.out (by decide) (fmt_good (by decide)).1 (fmt_good (by decide)).2 _).mono ?_
  rintro e w4 ⟨rfl, d4, h4, hg4⟩
  have H4 := Lib.hid h4
  have HG4 := Lib.hid hg4
  clear h4 hg4 H3
  go_wp2_with fail
  refine (sk_crash H4.out none 0 0 [] (.inl rfl) rfl (by unfold maxLen; omega)).mono ?_
  rintro e w5 ⟨rfl, h5⟩
  have H5 := Lib.hid h5
  have HG5 := Lib.hid (HG4.out.crash [])
  clear h5 H4 HG4
  go_wp2_with fail
  refine (sk_open H5.out (by decide) HG5.out).mono ?_
  rintro e w6 ⟨gs6, rfl, h6⟩
  have H6 := Lib.hid h6
  clear h6 H5
  go_wp2_with fail
  refine (sk_load H6.out (by decide)).mono ?_
  rintro e w7 ⟨LA, lc, rfl, hcv7, h7⟩
  rw [str_hi] at hcv7
  replace hcv7 : (convert 33 9 (.slice LA 2 lc)).run Tryd.prog w7 = .ok (.string ⟨#[104, 105]⟩) w7 := hcv7
  have H7 := Lib.hid h7
  clear h7 H6
  go_wp2_with fail
  refine (sk_turn H7.out).mono ?_
  rintro e w7' ⟨rfl, rfl⟩
  have HB7 : Hid (Below w.heap.size w w7) := H7.out.bel
  clear hcv7 H7 HG5
  by_cases hbad : pages < 1 ∨ 80 < pages
  · have HBAD := Lib.hid hbad
    clear hbad
    go_wp2_with fail
    refine (dnew_no w7 pages HBAD.out).mono ?_
    rintro e w8 ⟨rfl, hb8⟩
    have HB8 : Hid (Below w.heap.size w w8) := HB7.out.trans (hb8.mono HB7.out.size)
    clear hb8
    go_wp2
    go_ret
    exact ⟨rfl, HB8.out⟩
  obtain ⟨P, rfl⟩ := Int.eq_ofNat_of_zero_le (show 0 ≤ pages by omega)
  have hP1 : 0 < P := by omega
  have hP2 : P ≤ 80 := by omega
  clear hbad
  go_wp2_with fail
  refine (dnew_yes w7 P hP1 hP2).mono ?_
  rintro e w8 ⟨u8, rfl, hu, hb8, hf8⟩
  have HU8 := Lib.hid hu
  have HB8 : Hid (Below w.heap.size w w8) := HB7.out.trans (hb8.mono HB7.out.size)
  have HF8 : Hid (∀ k, u8.fp k → w.heap.size ≤ k) := fun k hk => Nat.le_trans HB7.out.size (hf8 k hk)
  clear hu hb8 hf8 HB7
  by_cases h62 : P < 62
  · have g62 : (P : Int) < 62 := by omega
    go_wp2_with fail
    refine (open_no w8 u8 P _ HU8.out h62).mono ?_
    rintro e w8' ⟨rfl, rfl⟩
    go_wp2_with fail
    refine (same_errno w8 5 5 (HD.out.new HB8.out) true rfl).mono ?_
    rintro e w9 ⟨rfl, hb9⟩
    have HB9 : Hid (Below w.heap.size w w9) := HB8.out.trans (hb9.mono HB8.out.size)
    have HU9 := Lib.hid (HU8.out.ext hb9)
    clear hb9
    go_wp2_with fail
    refine (format_no w9 u8 P _ HU9.out h62).mono ?_
    rintro e w9' ⟨rfl, rfl⟩
    go_wp2_with fail
    refine (same_errno w9 3 3 (HD.out.new HB9.out) true rfl).mono ?_
    rintro e w10 ⟨rfl, hb10⟩
    have HB10 : Hid (Below w.heap.size w w10) := HB9.out.trans (hb10.mono HB9.out.size)
    clear hb10
    go_wp2
    go_ret
    exact ⟨rfl, HB10.out⟩
  have hP3 : 62 ≤ P := by omega
  have g62 : ¬ (P : Int) < 62 := by omega
  clear h62
  obtain ⟨T, L, hT, hL⟩ := blank_heads P hP3
  have HOB := Lib.hid (open_blank w8 u8 P _ HU8.out hP3 T L hT hL)
  clear hT hL
  go_wp2_with fail
  refine HOB.out.mono ?_
  rintro e w9 ⟨rfl, hb9⟩
  have HB9 : Hid (Below w.heap.size w w9) := HB8.out.trans (hb9.mono HB8.out.size)
  have HU9 := Lib.hid (HU8.out.ext hb9)
  clear hb9 HOB HU8
  go_wp2_with fail
  refine (same_errno w9 5 5 (HD.out.new HB9.out) true rfl).mono ?_
  rintro e w10 ⟨rfl, hb10⟩
  have HB10 : Hid (Below w.heap.size w w10) := HB9.out.trans (hb10.mono HB9.out.size)
  have HU10 := Lib.hid (HU9.out.ext hb10)
  clear hb10 HU9
  go_wp2_with fail
  refine (format_yes w10 u8 P HU10.out hP3).mono ?_
  rintro e w11 ⟨u11, rfl, hu, hm⟩
  have HF11 := Lib.hid (fq_moved HB10.out HF8.out hm)
  have HU11 := Lib.hid hu
  have hg11 : u8.g = u11.g := hm.1.symm
  rw [hg11]
  clear hu hm hg11 HU10
  go_wp2_with fail
  refine (sk_open0 u11 HU11.out HF11.out.1 HF11.out.2 hP3 (fmt_good hP3).1).mono ?_
  rintro e w12 ⟨gs12, rfl, h12⟩
  have H12 := Lib.hid h12
  generalize u11.g = gu at H12 ⊢
  clear h12 HU11 HF11
  go_wp2_with fail
  refine (sk_load H12.out (by decide)).mono ?_
  rintro e w13 ⟨LA13, lc13, rfl, hcv13, h13⟩
  have H13 := Lib.hid h13
  clear h13 hcv13 H12
  go_wp2_with fail
  refine (sk_turn H13.out).mono ?_
  rintro e w13' ⟨rfl, rfl⟩
  have HS13 : Hid (SkRel w P gu gs12 0 [] false w13) := ⟨_, H13.out, (fmt_good hP3).1, fun _ => (fmt_good hP3).2⟩
  clear H13
  go_wp2_with fail
  go_loopw [7, 11, 12, 13, 14] (fun v7 v11 v12 v13 v14 wr => ∃ (k gs t : Nat) (b : List Int) (ar : Bool), k ≤ 20 ∧ k ≤ n ∧ t ≤ k ∧ v7 = .pointer (some ⟨gs, 0, none⟩) ∧ v11 = .string (strOfNums b) ∧ v12 = .int .i64 t ∧ v13 = .bool ar ∧ v14 = .int .i64 k ∧ Hid (SkRel w P gu gs t b ar wr)) (fun _ _ _ _ v14 _ => 20 - (intOf v14).toNat)
  case atStart => exact ⟨0, gs12, 0, [], false, by omega, by omega, by omega, rfl, by rw [str_none], rfl, rfl, rfl, HS13⟩
  case round =>
    obtain ⟨k, gs, t, b, ar, hk20, hkn, htk, rfl, rfl, rfl, rfl, rfl, HR⟩ := hrel
    clear HS13
    by_cases hkl : k < n
    · by_cases hk : k < 20
      · obtain ⟨d, hR, hG, hA⟩ := HR.out
        have HP := Lib.hid hR
        have HG := Lib.hid hG
        have HAR := Lib.hid hA
        clear hR hG hA HR
        rcases HS.out with h0 | ⟨bs, off, rfl, hbl, hev⟩
        · omega
        have hst := hev k hkl
        generalize s k = st at hst
        obtain ⟨y, x, A, m, c, p, KA, km, kc, kl⟩ := st
        obtain ⟨⟨t0, t1, t2, t3, ⟨EA, el, ec, t4⟩, hB, hbl2, hbm, hI, hkl2, hkm, hx64⟩, hmc, hcm2⟩ := hst
        simp only at t0 t1 t2 t3 t4 hB hbl2 hbm hI hkl2 hkm hx64 hmc hcm2
        have t0 := (HP.out.bel.cell (p := ⟨bs, off + k * 5, none⟩) hbl).trans t0
        have t1 := (HP.out.bel.cell (p := ⟨bs, off + k * 5 + 1, none⟩) hbl).trans t1
        have t2 := (HP.out.bel.cell (p := ⟨bs, off + k * 5 + 2, none⟩) hbl).trans t2
        have t3 := (HP.out.bel.cell (p := ⟨bs, off + k * 5 + 3, none⟩) hbl).trans t3
        have t4 := (HP.out.bel.cell (p := ⟨bs, off + k * 5 + 4, none⟩) hbl).trans t4
        have HBY := Lib.hid hB
        have HBL := Lib.hid hbl2
        have HI := Lib.hid hI
        have HKL := Lib.hid hkl2
        have HKM := Lib.hid hkm
        have HX := Lib.hid hx64
        have HCM := Lib.hid hcm2
        have HMC := Lib.hid hmc
        have z0 : (0 : Int) ≤ (k : Int) := by omega
        have z1 : (k : Int) < (n : Int) := by omega
        have z2 : (k : Int) < 20 := by omega
        clear hev hB hbl2 hbm hI hkl2 hkm hx64 hmc hcm2
        have HP1 := Lib.hid (HP.out.withBox #[.int .i64 y, .int .i64 x, .slice A m c, .slice KA km kc, .slice EA el ec])
        go_upto_block 2 with fail
        generalize wr.alloc (.cells #[.int .i64 y, .int .i64 x, .slice A m c, .slice KA km kc, .slice EA el ec] 37) = w1 at HP1 ⊢
        generalize wr.heap.size = gx at HP1 ⊢
        clear t0 t1 t2 t3 t4
        refine sksw_any _ _ _ _ _ _ _ _ _ _ _ _ _ _ _ _ _ _ _ _ _ _ _ _ _ _ _ _ _ _ _ _ _ _ _ _ _ _ _ _ _ _ _ _ _ _ _ _ _ _ _ _ _ _ _ _ _ _ _ _ _ _ _ _ _ _ _ _ _ _ _ _ _ _ _ _ _ _ _ _ _ _ _ _ _ _ _ _ _ _ _ _ _ _ _ _ _ _ _ _ _ _ _ _ _ _ _ _ _ _ _ _ _ _ _ _ _ _ _ _ _ _ _ _ _ _ _ _ _ _ _ _ _ _ _ _ _ _ _ _ _ _ _ _ _ _ _ _ _ _ _ _ _ _ _ _ _ _ _ _ _ _ _ _ _ _ _ _ _ _ _ _ _ _ _ _ _ _ _ _ _ _ _ _ _ _ _ _ _ _ _ _ _ _ _ _ _ _ _ _ _ _ _ _ _ _ _ _ _ _ _ _ _ _ _ _ _ _ _ _ _ _ _ _ _ _ _ _ _ _ _ _ _ _ _ _ _ _ _ _ _ _ _ _ _ _ _ _ _ _ _ _ _ _ _ _ w w1 P d (some ⟨bs, off, none⟩) n cap gu gs gx k t b ar y x A m c p KA km kc kl (.slice EA el ec) HP1.out hP3 HG.out HD.out HAR.out htk hk20 HBY.out HBL.out HMC.out HCM.out HI.out HKL.out HKM.out HX.out _ ?_
        intro v15 v16 v17 v18 v19 v20 v21 v22 v23 v121 v122 v123 v124 v125 v126 v127 v128 v129 v130 v131 v132 v133 v134 v135 v136 v137 v138 v139 v140 v141 v142 v143 v144 v145 v146 v147 v148 v149 v150 v151 v152 v153 v154 v155 v156 v157 v158 v159 v160 v161 v162 v163 v164 v165 v166 v167 v168 v169 v170 v171 v172 v173 v174 v175 v176 v177 v178 v179 v180 v181 v182 v183 v184 v185 v186 v187 v188 v189 v190 v191 v192 v193 v194 v195 v196 v197 v198 v199 v200 v201 v202 v203 v204 v205 v206 v207 v208 v209 v210 v211 v212 v213 v214 v215 v216 v217 v218 v219 v220 v221 v222 v223 v224 v225 v226 v227 v228 v229 v230 v231 v232 v233 v234 v235 v236 v237 v238 v239 v240 v241 v242 v243 v244 v245 v246 v247 v248 v249 v250 v251 v252 v253 v254 v255 v256 v257 v258 v259 v260 v261 v262 v263 v264 v265 v266 w2 d2 gs2 t2 b2 T2 ar2 h2 hg2 ha2 htk2 hT2
        subst hT2
        have HR2 : Hid (SkRel w P gu gs2 t2 b2 ar2 w2) := ⟨d2, h2, hg2, ha2⟩
        clear h2 hg2 ha2
        go_wp2
        go_roundw
        case rel => exact ⟨k + 1, gs2, t2, b2, ar2, by omega, by omega, htk2, rfl, rfl, rfl, rfl, by go_num, HR2⟩
        case measure => simp [intOf]; omega
      · have z1 : (k : Int) < (n : Int) := by omega
        have h20 : k = 20 := by omega
        subst h20
        go_wp2
        go_ret
        obtain ⟨d, hR, _⟩ := HR.out
        exact ⟨rfl, hR.bel⟩
    · have z1 : ¬ (k : Int) < (n : Int) := by omega
      go_wp2
      go_ret
      obtain ⟨d, hR, _⟩ := HR.out
      exact ⟨rfl, hR.bel⟩
end Go.Proofs.YtenjblonepegfaaDoor

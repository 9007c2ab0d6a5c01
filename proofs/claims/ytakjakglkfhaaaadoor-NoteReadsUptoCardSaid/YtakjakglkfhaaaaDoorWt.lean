/-
  The walker's walk: one node beside. Conditions: the walker lies in memory as 'WkAt' says; the walk of the node does as its model.
-/
import Derived.Test.YtakjakglkfhaaaaDoorWr
namespace Go.Proofs.YtakjakglkfhaaaaDoor
open Go Go.RowKit
set_option linter.unusedVariables false


set_option maxHeartbeats 4000000 in
set_option maxRecDepth 100000 in
theorem wkBlk_any {w0 w : World} {n : Nat} {k : Wkr} {vE vJ : Value} {s : DF.Wk} {a b fr p kc bs off m c i : Nat} {jb : Bool} {rec : Nat → DF.Wk → DF.Wk} {q' : DF.Wk × Nat × Bool} (hq : q' = DF.kid rec a fr (s, kc, jb) b) (han : a < n) (hbn : b < n) (hn : n ≤ 60) (hne : a ≠ b) (hkc : kc ≤ 400) (him : i < m) (hcb : w.cell? ⟨bs, off + i, none⟩ = some (.int .i64 (b : Int)))
    (H : Hid (WkAt w0 n k vE vJ s w)) (HOK : Hid (DF.Ok n s)) (HED : s.ed.length ≤ 60)
    (HC : Hid (b ≠ fr → ¬ 0 < PD.g s.wh b → Calls Tryd.prog 59 #[.pointer (some ⟨k.W, 0, none⟩), .int .i64 (b : Int), .int .i64 (a : Int), .int .i64 (p : Int)] w (WkPost w0 n k (rec b s)) ∧ DF.Ok n (rec b s) ∧ (rec b s).ed.length + 1 ≤ 60))
    (K : Act → World → Prop) (Q : Exit → Act → World → Prop) {u4 u5 u6 u7 u10 u11 u12 u13 u14 u15 u16 u17 u18 u19 u20 u21 u22 u23 u24 u25 u26 u27 u28 u29 u30 u31 u32 u33 u34 u35 u36 u37 u38 u39 u40 u41 u42 u43 u44 u45 u46 u47 u48 u49 u50 u51 u53 u55 u56 u57 u58 u59 u60 u61 u62 u63 u64 u65 u66 u67 u68 u69 u70 u71 u72 u73 u74 u75 u76 u77 u78 u79 u80 u81 u82 u83 u84 u85 u86 u87 u88 u89 u90 u91 u92 u93 u94 u95 u96 u97 u98 u99 u100 u101 u102 u103 u104 u105 u106 u107 u108 u109 u110 u111 u112 u113 u114 u115 u116 u117 u118 u119 u120 u121 u122 u123 u124 u125 u126 u127 u128 u129 u130 u131 u132 u133 u134 u135 u136 u137 u138 u139 u140 u141 u142 u143 u144 u145 u146 u147 u148 u149 u150 u151 u152 u153 u154 u155 u156 u157 u158 u159 u160 u161 u162 u163 u164 u165 u166 u167 u168 u169 u170 u171 u172 u173 u174 u175 u176 u177 u178 u179 u180 u181 u182 u183 u184 u185 u186 u187 u188 u189 u190 u191 u192 : Value}
    (hK : ∀ (v55 v56 v57 v58 v59 v60 v61 v62 v63 v64 v65 v66 v67 v68 v69 v70 v71 v72 v73 v74 v75 v76 v77 v78 v79 v80 v81 v82 v83 v84 v85 v86 v87 v88 v89 v90 v91 v92 v93 v94 v95 v96 v97 v98 v99 v100 v101 v102 v103 v104 v105 v106 v107 v108 v109 v110 v111 v112 v113 v114 v115 v116 v117 v118 v119 v120 v121 v122 v123 v124 v125 v126 v127 v128 v129 v130 v131 v132 v133 v134 v135 v136 v137 v138 v139 v140 v141 v142 v143 v144 v145 v146 v147 v148 v149 v150 v151 v152 v153 v154 v155 v156 v157 v158 v159 v160 v161 v162 v163 v164 v165 v166 vE' vJ' : Value) (w' : World), WkAt w0 n k vE' vJ' q'.1 w' → (Exit.then K Q) .normal ⟨List.toArray (.pointer (some ⟨k.W, 0, none⟩) :: .int .i64 (a : Int) :: .int .i64 (fr : Int) :: .int .i64 (p : Int) :: u4 :: u5 :: u6 :: u7 :: .int .i64 (q'.2.1 : Int) :: .bool q'.2.2 :: u10 :: .int .i64 (b : Int) :: u12 :: u13 :: u14 :: u15 :: u16 :: u17 :: u18 :: u19 :: u20 :: u21 :: u22 :: u23 :: u24 :: u25 :: u26 :: u27 :: u28 :: u29 :: u30 :: u31 :: u32 :: u33 :: u34 :: u35 :: u36 :: u37 :: u38 :: u39 :: u40 :: u41 :: u42 :: u43 :: u44 :: u45 :: u46 :: u47 :: u48 :: u49 :: u50 :: u51 :: .slice (some ⟨bs, off, none⟩) m c :: u53 :: .int .i64 (i : Int) :: v55 :: v56 :: v57 :: v58 :: v59 :: v60 :: v61 :: v62 :: v63 :: v64 :: v65 :: v66 :: v67 :: v68 :: v69 :: v70 :: v71 :: v72 :: v73 :: v74 :: v75 :: v76 :: v77 :: v78 :: v79 :: v80 :: v81 :: v82 :: v83 :: v84 :: v85 :: v86 :: v87 :: v88 :: v89 :: v90 :: v91 :: v92 :: v93 :: v94 :: v95 :: v96 :: v97 :: v98 :: v99 :: v100 :: v101 :: v102 :: v103 :: v104 :: v105 :: v106 :: v107 :: v108 :: v109 :: v110 :: v111 :: v112 :: v113 :: v114 :: v115 :: v116 :: v117 :: v118 :: v119 :: v120 :: v121 :: v122 :: v123 :: v124 :: v125 :: v126 :: v127 :: v128 :: v129 :: v130 :: v131 :: v132 :: v133 :: v134 :: v135 :: v136 :: v137 :: v138 :: v139 :: v140 :: v141 :: v142 :: v143 :: v144 :: v145 :: v146 :: v147 :: v148 :: v149 :: v150 :: v151 :: v152 :: v153 :: v154 :: v155 :: v156 :: v157 :: v158 :: v159 :: v160 :: v161 :: v162 :: v163 :: v164 :: v165 :: v166 :: u167 :: u168 :: u169 :: u170 :: u171 :: u172 :: u173 :: u174 :: u175 :: u176 :: u177 :: u178 :: u179 :: u180 :: u181 :: u182 :: u183 :: u184 :: u185 :: u186 :: u187 :: u188 :: u189 :: u190 :: u191 :: u192 :: []), []⟩ w') :
    Code.wp Tryd.prog wkBlk (Exit.then K Q) ⟨List.toArray (.pointer (some ⟨k.W, 0, none⟩) :: .int .i64 (a : Int) :: .int .i64 (fr : Int) :: .int .i64 (p : Int) :: u4 :: u5 :: u6 :: u7 :: .int .i64 (kc : Int) :: .bool jb :: u10 :: u11 :: u12 :: u13 :: u14 :: u15 :: u16 :: u17 :: u18 :: u19 :: u20 :: u21 :: u22 :: u23 :: u24 :: u25 :: u26 :: u27 :: u28 :: u29 :: u30 :: u31 :: u32 :: u33 :: u34 :: u35 :: u36 :: u37 :: u38 :: u39 :: u40 :: u41 :: u42 :: u43 :: u44 :: u45 :: u46 :: u47 :: u48 :: u49 :: u50 :: u51 :: .slice (some ⟨bs, off, none⟩) m c :: u53 :: .int .i64 (i : Int) :: u55 :: u56 :: u57 :: u58 :: u59 :: u60 :: u61 :: u62 :: u63 :: u64 :: u65 :: u66 :: u67 :: u68 :: u69 :: u70 :: u71 :: u72 :: u73 :: u74 :: u75 :: u76 :: u77 :: u78 :: u79 :: u80 :: u81 :: u82 :: u83 :: u84 :: u85 :: u86 :: u87 :: u88 :: u89 :: u90 :: u91 :: u92 :: u93 :: u94 :: u95 :: u96 :: u97 :: u98 :: u99 :: u100 :: u101 :: u102 :: u103 :: u104 :: u105 :: u106 :: u107 :: u108 :: u109 :: u110 :: u111 :: u112 :: u113 :: u114 :: u115 :: u116 :: u117 :: u118 :: u119 :: u120 :: u121 :: u122 :: u123 :: u124 :: u125 :: u126 :: u127 :: u128 :: u129 :: u130 :: u131 :: u132 :: u133 :: u134 :: u135 :: u136 :: u137 :: u138 :: u139 :: u140 :: u141 :: u142 :: u143 :: u144 :: u145 :: u146 :: u147 :: u148 :: u149 :: u150 :: u151 :: u152 :: u153 :: u154 :: u155 :: u156 :: u157 :: u158 :: u159 :: u160 :: u161 :: u162 :: u163 :: u164 :: u165 :: u166 :: u167 :: u168 :: u169 :: u170 :: u171 :: u172 :: u173 :: u174 :: u175 :: u176 :: u177 :: u178 :: u179 :: u180 :: u181 :: u182 :: u183 :: u184 :: u185 :: u186 :: u187 :: u188 :: u189 :: u190 :: u191 :: u192 :: []), []⟩ w := by
  have HK := Lib.hid hK
  have HQ := Lib.hid hq
  clear hK hq
  have him' : (i : Int) < (m : Int) := by omega
  have hi0 : (0 : Int) ≤ (i : Int) := by omega
  have hbi : (b : Int) < (n : Int) := by omega
  have hb0 : (0 : Int) ≤ (b : Int) := by omega
  have c1 : w.cell? ⟨k.W, 1, none⟩ = some (.slice (some ⟨k.gw, 0, none⟩) n n) := H.out.blk.cell 1
  obtain ⟨r3, g3⟩ := int_cell H.out.wh HOK.out.wl hbn
  simp only [wkBlk, wkLoop, dBody, dFst, dSnd, dArm, Tryd.f59]
  by_cases e : b = fr
  · have e1 : ((b : Int) == (fr : Int)) = true := by simp; omega
    have HF : Hid (q' = (s, kc, jb)) := by rw [Hid, HQ.out, DF.kid, if_pos e]
    have hf := HF.out
    subst hf
    subst e
    go_wp2
    exact HK.out _ _ _ _ _ _ _ _ _ _ _ _ _ _ _ _ _ _ _ _ _ _ _ _ _ _ _ _ _ _ _ _ _ _ _ _ _ _ _ _ _ _ _ _ _ _ _ _ _ _ _ _ _ _ _ _ _ _ _ _ _ _ _ _ _ _ _ _ _ _ _ _ _ _ _ _ _ _ _ _ _ _ _ _ _ _ _ _ _ _ _ _ _ _ _ _ _ _ _ _ _ _ _ _ _ _ _ _ _ _ _ _ _ _ _ H.out
  have e1 : ((b : Int) == (fr : Int)) = false := by simp; omega
  by_cases hv : 0 < PD.g s.wh b
  · have hv' : decide (0 < PD.g s.wh b) = true := by simpa using hv
    have HF : Hid (q' = (DF.low a (PD.g s.wh b) s, kc, jb)) := by rw [Hid, HQ.out, DF.kid, if_neg e, if_pos hv]
    have hf := HF.out
    subst hf
    go_upto_region 8 with fail
    refine wk8_any (jb := jb) han hbn hn H HOK HED _ ?_
    intro v69 v70 v71 v72 v73 v74 v75 v76 v77 v78 v79 v80 v81 v82 v83 v84 v85 v86 v87 v88 v89 w4 hw4
    have H4 := Lib.hid hw4
    clear hw4 H
    go_wp2
    exact HK.out _ _ _ _ _ _ _ _ _ _ _ _ _ _ _ _ _ _ _ _ _ _ _ _ _ _ _ _ _ _ _ _ _ _ _ _ _ _ _ _ _ _ _ _ _ _ _ _ _ _ _ _ _ _ _ _ _ _ _ _ _ _ _ _ _ _ _ _ _ _ _ _ _ _ _ _ _ _ _ _ _ _ _ _ _ _ _ _ _ _ _ _ _ _ _ _ _ _ _ _ _ _ _ _ _ _ _ _ _ _ _ _ _ _ _ H4.out
  · obtain ⟨hc1, hc2, hc3⟩ := HC.out e hv
    have HC1 := Lib.hid hc1
    have HC2 := Lib.hid hc2
    have hv' : decide (0 < PD.g s.wh b) = false := by simpa using hv
    obtain ⟨s2, hs2⟩ : ∃ x, x = rec b s := ⟨_, rfl⟩
    have HF : Hid (q' = (DF.tell a b (DF.low a (PD.g s2.lo b) s2), kc + 1, jb || decide (PD.g (DF.low a (PD.g s2.lo b) s2).wh a ≤ PD.g (DF.low a (PD.g s2.lo b) s2).lo b))) := by rw [Hid, HQ.out, DF.kid, if_neg e, if_neg hv]; simp only [← hs2]
    rw [← hs2] at HC1 HC2 hc3
    have hf := HF.out
    subst hf
    have hkc2 : ((kc + 1 : Nat) : Int) = (kc : Int) + 1 := by omega
    clear hc1 hc2 hs2 HC
    go_wp2_with fail
    refine HC1.out.mono ?_
    rintro e w3 ⟨rfl, vE2, vJ2, hw3⟩
    have H3 := Lib.hid hw3
    have HED3 : s2.ed.length ≤ 60 := by omega
    clear hw3 HC1 H
    go_upto_region 11 with fail
    refine wk11_any (jb := jb) han hbn hn H3 HC2 HED3 _ ?_
    intro v97 v98 v99 v100 v101 v102 v103 v104 v105 v106 v107 v108 v109 v110 v111 v112 v113 v114 v115 v116 v117 w4 hw4
    have H4 := Lib.hid hw4
    have HOK4 : Hid (DF.Ok n (DF.low a (PD.g s2.lo b) s2)) := ⟨HC2.out.wl, by simp [DF.low, HC2.out.ll], HC2.out.pl, HC2.out.le, HC2.out.ge⟩
    have HED4 : (DF.low a (PD.g s2.lo b) s2).ed.length + 1 ≤ 60 := hc3
    generalize DF.low a (PD.g s2.lo b) s2 = s3 at H4 HK HOK4 HED4
    clear hw4 H3 HC2 hc3 HED3
    have HED5 : s3.ed.length ≤ 60 := by omega
    go_upto_region 12 with fail
    refine wk12_any (jb := jb) han hbn hn H4 HOK4 HED5 _ ?_
    intro v118 v119 v120 v121 v122 v123 v124 v125 v126 v127 v128 v129 v130 v131 w5 hw5
    have H5 := Lib.hid hw5
    clear hw5 H4
    by_cases ht : PD.g s3.wh a < PD.g s3.lo b
    · rw [decide_eq_true ht]
      have HT : Hid (DF.tell a b s3 = { s3 with ed := s3.ed ++ [DF.ek a b] }) := by unfold Hid DF.tell; rw [if_pos ht]
      clear ht
      go_upto_region 13 with fail
      refine wk13_any (jb := jb) han hbn hn H5 HOK4 HED5 hne _ ?_
      intro v133 v134 v135 v136 v137 v138 v139 v140 v141 v142 v143 v144 v145 v146 v147 v148 vE6 w6 hw6
      have H6 := Lib.hid hw6
      have HOK6 : Hid (DF.Ok n { s3 with ed := s3.ed ++ [DF.ek a b] }) := ⟨HOK4.out.wl, HOK4.out.ll, HOK4.out.pl, HOK4.out.le, HOK4.out.ge⟩
      clear hw6
      go_upto_region 14 with fail
      refine wk14_any han hbn hn H6 HOK6 (by simp; omega) _ ?_
      intro v149 v150 v151 v152 v153 v154 v155 v156 v157 v158 v159 v160 v161 v162 v163 v164 v165 v166 w7 hw7
      refine HK.out _ _ _ _ _ _ _ _ _ _ _ _ _ _ _ _ _ _ _ _ _ _ _ _ _ _ _ _ _ _ _ _ _ _ _ _ _ _ _ _ _ _ _ _ _ _ _ _ _ _ _ _ _ _ _ _ _ _ _ _ _ _ _ _ _ _ _ _ _ _ _ _ _ _ _ _ _ _ _ _ _ _ _ _ _ _ _ _ _ _ _ _ _ _ _ _ _ _ _ _ _ _ _ _ _ _ _ _ _ _ _ _ vE6 vJ2 w7 ?_
      show WkAt _ _ _ _ _ (DF.tell a b s3) _
      rw [HT.out]; exact hw7
    · rw [decide_eq_false ht]
      have HT : Hid (DF.tell a b s3 = s3) := by unfold Hid DF.tell; rw [if_neg ht]
      clear ht
      go_upto_region 14 with fail
      refine wk14_any han hbn hn H5 HOK4 HED5 _ ?_
      intro v149 v150 v151 v152 v153 v154 v155 v156 v157 v158 v159 v160 v161 v162 v163 v164 v165 v166 w7 hw7
      refine HK.out _ _ _ _ _ _ _ _ _ _ _ _ _ _ _ _ _ _ _ _ _ _ _ _ _ _ _ _ _ _ _ _ _ _ _ _ _ _ _ _ _ _ _ _ _ _ _ _ _ _ _ _ _ _ _ _ _ _ _ _ _ _ _ _ _ _ _ _ _ _ _ _ _ _ _ _ _ _ _ _ _ _ _ _ _ _ _ _ _ _ _ _ _ _ _ _ _ _ _ _ _ _ _ _ _ _ _ _ _ _ _ _ vE2 vJ2 w7 ?_
      show WkAt _ _ _ _ _ (DF.tell a b s3) _
      rw [HT.out]; exact hw7
end Go.Proofs.YtakjakglkfhaaaaDoor

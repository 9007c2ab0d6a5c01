/-
  The walker's walk: one node beside. Conditions: the walker lies in memory as 'WkAt' says; the walk of the node does as its model.
  Walk of (*bridge.walker).walk. Conditions: the walker lies in memory as 'WkAt' says; its visit may be begun.
  Walk of bridge.Beside. Conditions: the edges lie in memory as 'EdsAt' says, their nodes are nodes.
  The beginning of bridge.walked: the walker is made. Conditions: the edges lie in memory as 'EdsAt' says, their nodes are nodes.
  Walk of bridge.walked. Conditions: the edges lie in memory as 'EdsAt' says, their nodes are nodes.
-/
import Derived.Test.YthgniehfejklhaaGreatTopLessPk3
import Derived.Deep.CutBlock
import Derived.Deep.DeepCutAuto
import Derived.StillTailTactics
import Derived.Deep.RegionLaw
namespace Go.Proofs.YthgniehfejklhaaGreat
open Go Go.RowKit
set_option linter.unusedVariables false


set_option maxHeartbeats 4000000 in
set_option maxRecDepth 100000 in
theorem wkBlk_any {w0 w : World} {n : Nat} {k : Wkr} {vE vJ : Value} {s : DF.Wk} {a b fr p kc bs off m c i : Nat} {jb : Bool} {rec : Nat → DF.Wk → DF.Wk} {q' : DF.Wk × Nat × Bool} (hq : q' = DF.kid rec a fr (s, kc, jb) b) (han : a < n) (hbn : b < n) (hn : n ≤ 60) (hne : a ≠ b) (hkc : kc ≤ 400) (him : i < m) (hcb : w.cell? ⟨bs, off + i, none⟩ = some (.int .i64 (b : Int)))
    (H : Hid (WkAt w0 n k vE vJ s w)) (HOK : Hid (DF.Ok n s)) (HED : s.ed.length ≤ 60)
    (HC : Hid (b ≠ fr → ¬ 0 < PD.g s.wh b → Calls Tryz.prog 98 #[.pointer (some ⟨k.W, 0, none⟩), .int .i64 (b : Int), .int .i64 (a : Int), .int .i64 (p : Int)] w (WkPost w0 n k (rec b s)) ∧ DF.Ok n (rec b s) ∧ (rec b s).ed.length + 1 ≤ 60))
    (K : Act → World → Prop) (Q : Exit → Act → World → Prop) {u4 u5 u6 u7 u10 u11 u12 u13 u14 u15 u16 u17 u18 u19 u20 u21 u22 u23 u24 u25 u26 u27 u28 u29 u30 u31 u32 u33 u34 u35 u36 u37 u38 u39 u40 u41 u42 u43 u44 u45 u46 u47 u48 u49 u50 u51 u53 u55 u56 u57 u58 u59 u60 u61 u62 u63 u64 u65 u66 u67 u68 u69 u70 u71 u72 u73 u74 u75 u76 u77 u78 u79 u80 u81 u82 u83 u84 u85 u86 u87 u88 u89 u90 u91 u92 u93 u94 u95 u96 u97 u98 u99 u100 u101 u102 u103 u104 u105 u106 u107 u108 u109 u110 u111 u112 u113 u114 u115 u116 u117 u118 u119 u120 u121 u122 u123 u124 u125 u126 u127 u128 u129 u130 u131 u132 u133 u134 u135 u136 u137 u138 u139 u140 u141 u142 u143 u144 u145 u146 u147 u148 u149 u150 u151 u152 u153 u154 u155 u156 u157 u158 u159 u160 u161 u162 u163 u164 u165 u166 u167 u168 u169 u170 u171 u172 u173 u174 u175 u176 u177 u178 u179 u180 u181 u182 u183 u184 u185 u186 u187 u188 u189 u190 u191 u192 : Value}
    (hK : ∀ (v55 v56 v57 v58 v59 v60 v61 v62 v63 v64 v65 v66 v67 v68 v69 v70 v71 v72 v73 v74 v75 v76 v77 v78 v79 v80 v81 v82 v83 v84 v85 v86 v87 v88 v89 v90 v91 v92 v93 v94 v95 v96 v97 v98 v99 v100 v101 v102 v103 v104 v105 v106 v107 v108 v109 v110 v111 v112 v113 v114 v115 v116 v117 v118 v119 v120 v121 v122 v123 v124 v125 v126 v127 v128 v129 v130 v131 v132 v133 v134 v135 v136 v137 v138 v139 v140 v141 v142 v143 v144 v145 v146 v147 v148 v149 v150 v151 v152 v153 v154 v155 v156 v157 v158 v159 v160 v161 v162 v163 v164 v165 v166 vE' vJ' : Value) (w' : World), WkAt w0 n k vE' vJ' q'.1 w' → (Exit.then K Q) .normal ⟨List.toArray (.pointer (some ⟨k.W, 0, none⟩) :: .int .i64 (a : Int) :: .int .i64 (fr : Int) :: .int .i64 (p : Int) :: u4 :: u5 :: u6 :: u7 :: .int .i64 (q'.2.1 : Int) :: .bool q'.2.2 :: u10 :: .int .i64 (b : Int) :: u12 :: u13 :: u14 :: u15 :: u16 :: u17 :: u18 :: u19 :: u20 :: u21 :: u22 :: u23 :: u24 :: u25 :: u26 :: u27 :: u28 :: u29 :: u30 :: u31 :: u32 :: u33 :: u34 :: u35 :: u36 :: u37 :: u38 :: u39 :: u40 :: u41 :: u42 :: u43 :: u44 :: u45 :: u46 :: u47 :: u48 :: u49 :: u50 :: u51 :: .slice (some ⟨bs, off, none⟩) m c :: u53 :: .int .i64 (i : Int) :: v55 :: v56 :: v57 :: v58 :: v59 :: v60 :: v61 :: v62 :: v63 :: v64 :: v65 :: v66 :: v67 :: v68 :: v69 :: v70 :: v71 :: v72 :: v73 :: v74 :: v75 :: v76 :: v77 :: v78 :: v79 :: v80 :: v81 :: v82 :: v83 :: v84 :: v85 :: v86 :: v87 :: v88 :: v89 :: v90 :: v91 :: v92 :: v93 :: v94 :: v95 :: v96 :: v97 :: v98 :: v99 :: v100 :: v101 :: v102 :: v103 :: v104 :: v105 :: v106 :: v107 :: v108 :: v109 :: v110 :: v111 :: v112 :: v113 :: v114 :: v115 :: v116 :: v117 :: v118 :: v119 :: v120 :: v121 :: v122 :: v123 :: v124 :: v125 :: v126 :: v127 :: v128 :: v129 :: v130 :: v131 :: v132 :: v133 :: v134 :: v135 :: v136 :: v137 :: v138 :: v139 :: v140 :: v141 :: v142 :: v143 :: v144 :: v145 :: v146 :: v147 :: v148 :: v149 :: v150 :: v151 :: v152 :: v153 :: v154 :: v155 :: v156 :: v157 :: v158 :: v159 :: v160 :: v161 :: v162 :: v163 :: v164 :: v165 :: v166 :: u167 :: u168 :: u169 :: u170 :: u171 :: u172 :: u173 :: u174 :: u175 :: u176 :: u177 :: u178 :: u179 :: u180 :: u181 :: u182 :: u183 :: u184 :: u185 :: u186 :: u187 :: u188 :: u189 :: u190 :: u191 :: u192 :: []), []⟩ w') :
    Code.wp Tryz.prog wkBlk (Exit.then K Q) ⟨List.toArray (.pointer (some ⟨k.W, 0, none⟩) :: .int .i64 (a : Int) :: .int .i64 (fr : Int) :: .int .i64 (p : Int) :: u4 :: u5 :: u6 :: u7 :: .int .i64 (kc : Int) :: .bool jb :: u10 :: u11 :: u12 :: u13 :: u14 :: u15 :: u16 :: u17 :: u18 :: u19 :: u20 :: u21 :: u22 :: u23 :: u24 :: u25 :: u26 :: u27 :: u28 :: u29 :: u30 :: u31 :: u32 :: u33 :: u34 :: u35 :: u36 :: u37 :: u38 :: u39 :: u40 :: u41 :: u42 :: u43 :: u44 :: u45 :: u46 :: u47 :: u48 :: u49 :: u50 :: u51 :: .slice (some ⟨bs, off, none⟩) m c :: u53 :: .int .i64 (i : Int) :: u55 :: u56 :: u57 :: u58 :: u59 :: u60 :: u61 :: u62 :: u63 :: u64 :: u65 :: u66 :: u67 :: u68 :: u69 :: u70 :: u71 :: u72 :: u73 :: u74 :: u75 :: u76 :: u77 :: u78 :: u79 :: u80 :: u81 :: u82 :: u83 :: u84 :: u85 :: u86 :: u87 :: u88 :: u89 :: u90 :: u91 :: u92 :: u93 :: u94 :: u95 :: u96 :: u97 :: u98 :: u99 :: u100 :: u101 :: u102 :: u103 :: u104 :: u105 :: u106 :: u107 :: u108 :: u109 :: u110 :: u111 :: u112 :: u113 :: u114 :: u115 :: u116 :: u117 :: u118 :: u119 :: u120 :: u121 :: u122 :: u123 :: u124 :: u125 :: u126 :: u127 :: u128 :: u129 :: u130 :: u131 :: u132 :: u133 :: u134 :: u135 :: u136 :: u137 :: u138 :: u139 :: u140 :: u141 :: u142 :: u143 :: u144 :: u145 :: u146 :: u147 :: u148 :: u149 :: u150 :: u151 :: u152 :: u153 :: u154 :: u155 :: u156 :: u157 :: u158 :: u159 :: u160 :: u161 :: u162 :: u163 :: u164 :: u165 :: u166 :: u167 :: u168 :: u169 :: u170 :: u171 :: u172 :: u173 :: u174 :: u175 :: u176 :: u177 :: u178 :: u179 :: u180 :: u181 :: u182 :: u183 :: u184 :: u185 :: u186 :: u187 :: u188 :: u189 :: u190 :: u191 :: u192 :: []), []⟩ w := by
  have HK := Lib.hid hK
  have HQ := Lib.hid hq
  clear hK hq
  have him' : (i : Int) < (m : Int) := by omega
  have hi0 : (0 : Int) ≤ (i : Int) := by omega
  have hbi : (b : Int) < (n : Int) := by omega
  have hb0 : (0 : Int) ≤ (b : Int) := by omega
  have c1 : w.cell? ⟨k.W, 1, none⟩ = some (.slice (some ⟨k.gw, 0, none⟩) n n) := H.out.blk.cell 1
  obtain ⟨r3, g3⟩ := int_cell H.out.wh HOK.out.wl hbn
  simp only [wkBlk, wkLoop, dBody, dFst, dSnd, dArm, Tryz.f98]
  by_cases e : b = fr
  · have e1 : ((b : Int) == (fr : Int)) = true := by simp; omega
    have HF : Hid (q' = (s, kc, jb)) := by rw [Hid, HQ.out, DF.kid, if_pos e]
    have hf := HF.out
    subst hf
    subst e
    go_wp2
    exact HK.out _ _ _ _ _ _ _ _ _ _ _ _ _ _ _ _ _ _ _ _ _ _ _ _ _ _ _ _ _ _ _ _ _ _ _ _ _ _ _ _ _ _ _ _ _ _ _ _ _ _ _ _ _ _ _ _ _ _ _ _ _ _ _ _ _ _ _ _ _ _ _ _ _ _ _ _ _ _ _ _ _ _ _ _ _ _ _ _ _ _ _ _ _ _ _ _ _ _ _ _ _ _ _ _ _ _ _ _ _ _ _ _ _ _ _ H.out
  have e1 : ((b : Int) == (fr : Int)) = false := by simp; omega
  by_cases hv : 0 < PD.g s.wh b
  · have hv' : decide (0 < PD.g s.wh b) = true := by simpa using hv
    have HF : Hid (q' = (DF.low a (PD.g s.wh b) s, kc, jb)) := by rw [Hid, HQ.out, DF.kid, if_neg e, if_pos hv]
    have hf := HF.out
    subst hf
    go_upto_region 8 with fail
    refine wk8_any (jb := jb) han hbn hn H HOK HED _ ?_
    intro v69 v70 v71 v72 v73 v74 v75 v76 v77 v78 v79 v80 v81 v82 v83 v84 v85 v86 v87 v88 v89 w4 hw4
    have H4 := Lib.hid hw4
    clear hw4 H
    go_wp2
    exact HK.out _ _ _ _ _ _ _ _ _ _ _ _ _ _ _ _ _ _ _ _ _ _ _ _ _ _ _ _ _ _ _ _ _ _ _ _ _ _ _ _ _ _ _ _ _ _ _ _ _ _ _ _ _ _ _ _ _ _ _ _ _ _ _ _ _ _ _ _ _ _ _ _ _ _ _ _ _ _ _ _ _ _ _ _ _ _ _ _ _ _ _ _ _ _ _ _ _ _ _ _ _ _ _ _ _ _ _ _ _ _ _ _ _ _ _ H4.out
  · obtain ⟨hc1, hc2, hc3⟩ := HC.out e hv
    have HC1 := Lib.hid hc1
    have HC2 := Lib.hid hc2
    have hv' : decide (0 < PD.g s.wh b) = false := by simpa using hv
    obtain ⟨s2, hs2⟩ : ∃ x, x = rec b s := ⟨_, rfl⟩
    have HF : Hid (q' = (DF.tell a b (DF.low a (PD.g s2.lo b) s2), kc + 1, jb || decide (PD.g (DF.low a (PD.g s2.lo b) s2).wh a ≤ PD.g (DF.low a (PD.g s2.lo b) s2).lo b))) := by rw [Hid, HQ.out, DF.kid, if_neg e, if_neg hv]; simp only [← hs2]
    rw [← hs2] at HC1 HC2 hc3
    have hf := HF.out
    subst hf
    have hkc2 : ((kc + 1 : Nat) : Int) = (kc : Int) + 1 := by omega
    clear hc1 hc2 hs2 HC
    go_wp2_with fail
    refine HC1.out.mono ?_
    rintro e w3 ⟨rfl, vE2, vJ2, hw3⟩
    have H3 := Lib.hid hw3
    have HED3 : s2.ed.length ≤ 60 := by omega
    clear hw3 HC1 H
    go_upto_region 11 with fail
    refine wk11_any (jb := jb) han hbn hn H3 HC2 HED3 _ ?_
    intro v97 v98 v99 v100 v101 v102 v103 v104 v105 v106 v107 v108 v109 v110 v111 v112 v113 v114 v115 v116 v117 w4 hw4
    have H4 := Lib.hid hw4
    have HOK4 : Hid (DF.Ok n (DF.low a (PD.g s2.lo b) s2)) := ⟨HC2.out.wl, by simp [DF.low, HC2.out.ll], HC2.out.pl, HC2.out.le, HC2.out.ge⟩
    have HED4 : (DF.low a (PD.g s2.lo b) s2).ed.length + 1 ≤ 60 := hc3
    generalize DF.low a (PD.g s2.lo b) s2 = s3 at H4 HK HOK4 HED4
    clear hw4 H3 HC2 hc3 HED3
    have HED5 : s3.ed.length ≤ 60 := by omega
    go_upto_region 12 with fail
    refine wk12_any (jb := jb) han hbn hn H4 HOK4 HED5 _ ?_
    intro v118 v119 v120 v121 v122 v123 v124 v125 v126 v127 v128 v129 v130 v131 w5 hw5
    have H5 := Lib.hid hw5
    clear hw5 H4
    by_cases ht : PD.g s3.wh a < PD.g s3.lo b
    · rw [decide_eq_true ht]
      have HT : Hid (DF.tell a b s3 = { s3 with ed := s3.ed ++ [DF.ek a b] }) := by unfold Hid DF.tell; rw [if_pos ht]
      clear ht
      go_upto_region 13 with fail
      refine wk13_any (jb := jb) han hbn hn H5 HOK4 HED5 hne _ ?_
      intro v133 v134 v135 v136 v137 v138 v139 v140 v141 v142 v143 v144 v145 v146 v147 v148 vE6 w6 hw6
      have H6 := Lib.hid hw6
      have HOK6 : Hid (DF.Ok n { s3 with ed := s3.ed ++ [DF.ek a b] }) := ⟨HOK4.out.wl, HOK4.out.ll, HOK4.out.pl, HOK4.out.le, HOK4.out.ge⟩
      clear hw6
      go_upto_region 14 with fail
      refine wk14_any han hbn hn H6 HOK6 (by simp; omega) _ ?_
      intro v149 v150 v151 v152 v153 v154 v155 v156 v157 v158 v159 v160 v161 v162 v163 v164 v165 v166 w7 hw7
      refine HK.out _ _ _ _ _ _ _ _ _ _ _ _ _ _ _ _ _ _ _ _ _ _ _ _ _ _ _ _ _ _ _ _ _ _ _ _ _ _ _ _ _ _ _ _ _ _ _ _ _ _ _ _ _ _ _ _ _ _ _ _ _ _ _ _ _ _ _ _ _ _ _ _ _ _ _ _ _ _ _ _ _ _ _ _ _ _ _ _ _ _ _ _ _ _ _ _ _ _ _ _ _ _ _ _ _ _ _ _ _ _ _ _ vE6 vJ2 w7 ?_
      show WkAt _ _ _ _ _ (DF.tell a b s3) _
      rw [HT.out]; exact hw7
    · rw [decide_eq_false ht]
      have HT : Hid (DF.tell a b s3 = s3) := by unfold Hid DF.tell; rw [if_neg ht]
      clear ht
      go_upto_region 14 with fail
      refine wk14_any han hbn hn H5 HOK4 HED5 _ ?_
      intro v149 v150 v151 v152 v153 v154 v155 v156 v157 v158 v159 v160 v161 v162 v163 v164 v165 v166 w7 hw7
      refine HK.out _ _ _ _ _ _ _ _ _ _ _ _ _ _ _ _ _ _ _ _ _ _ _ _ _ _ _ _ _ _ _ _ _ _ _ _ _ _ _ _ _ _ _ _ _ _ _ _ _ _ _ _ _ _ _ _ _ _ _ _ _ _ _ _ _ _ _ _ _ _ _ _ _ _ _ _ _ _ _ _ _ _ _ _ _ _ _ _ _ _ _ _ _ _ _ _ _ _ _ _ _ _ _ _ _ _ _ _ _ _ _ _ vE2 vJ2 w7 ?_
      show WkAt _ _ _ _ _ (DF.tell a b s3) _
      rw [HT.out]; exact hw7
end Go.Proofs.YthgniehfejklhaaGreat
namespace Go.Proofs.YthgniehfejklhaaGreat
open Go Go.RowKit
set_option linter.unusedVariables false

set_option maxHeartbeats 4000000 in
set_option maxRecDepth 100000 in
theorem visit_any (w0 : World) (n Gb cb : Nat) (l : List AK.Ed) (N : Nat → List Nat) (k : Wkr) (hk : k.vB = .slice (some ⟨Gb, 0, none⟩) n cb) (hB : BesAt w0 Gb n N) (B : Nat) (hI : BesIn B w0 Gb n) (hS : ∀ j, k.S j → j < B ∨ w0.heap.size ≤ j) (hN : DF.Bes n l N) (hl : ∀ u, ¬ PD.adj l u u) (hin : ∀ u v, PD.adj l u v → v < n) (hn : n ≤ 60) (p : Nat) (f : Nat)
    (IH : ∀ (a fr ke kj : Nat) (s : DF.Wk) (vE vJ : Value) (wr : World), DF.Pre n l a fr s → DF.unv n s ≤ f → DF.Bd n ke kj s → WkAt w0 n k vE vJ s wr →
      Calls Tryz.prog 98 #[.pointer (some ⟨k.W, 0, none⟩), .int .i64 (a : Int), .int .i64 (fr : Int), .int .i64 (p : Int)] wr (WkPost w0 n k (DF.visit N p f a fr s)))
    (a fr ke kj : Nat) (s : DF.Wk) (vE vJ : Value) (wr : World) (hP : DF.Pre n l a fr s) (hf : DF.unv n s ≤ f + 1) (hb : DF.Bd n ke kj s) (h : WkAt w0 n k vE vJ s wr) :
      Calls Tryz.prog 98 #[.pointer (some ⟨k.W, 0, none⟩), .int .i64 (a : Int), .int .i64 (fr : Int), .int .i64 (p : Int)] wr (WkPost w0 n k (DF.visit N p (f + 1) a fr s)) := by
  have han := hP.an
  have htm : s.tm ≤ 60 := by have := hb.un; omega
  have HQ : Hid (∀ i, DF.At n l a fr f ke kj s i (DF.qa N p f a fr s i)) := fun i => DF.qa_at hN hl hin hP hf hb i
  have HP := Lib.hid hP
  have HB := Lib.hid hB
  have HN := Lib.hid hN
  have HI := Lib.hid hin
  have HNL := Lib.hid hl
  have HK := Lib.hid hk
  have HVP : Hid (∀ f b a s, DF.Pre n l b a s → DF.unv n s ≤ f → DF.Ok n (DF.visit N p f b a s)) := fun f b a s h1 h2 => by
    obtain ⟨T, E, h⟩ := DF.visit_post hN hl hin p f b a s h1 h2
    exact h.toOk
  have HVB : Hid (∀ f b a ke kj s, DF.Pre n l b a s → DF.unv n s ≤ f → DF.Bd n ke kj s → DF.Bd n (ke + 1) kj (DF.visit N p f b a s)) := fun f b a ke kj s h1 h2 h3 => DF.visit_bd hN hl hin p f b a ke kj s h1 h2 h3
  have H := Lib.hid h
  have HIH := Lib.hid IH
  have c4 : wr.cell? ⟨k.W, 4, none⟩ = some (.int .i64 (s.tm : Int)) := h.blk.cell 4
  have f4 := h.blk.frozen 4
  have hwt : IntKind.i64.wrap ((s.tm : Int) + 1) = ((s.tm + 1 : Nat) : Int) := IntWalk.i64_in _ (by omega)
  clear hP hf hb h hB hN hl hin hk IH
  go_enter Tryz.func98, Tryz.ntmps98
  go_upto_region 1 with fail
  have htt : ((s.tm + 1 : Nat) : Int) = (s.tm : Int) + 1 := by omega
  have H1 := H.out.setTm (s.tm + 1)
  rw [htt] at H1
  generalize wr.setCell ⟨k.W, 4, none⟩ (.int .i64 ((s.tm : Int) + 1)) = w1 at H1 ⊢
  have b1 : w1.cell? ⟨k.W, 1, none⟩ = some (.slice (some ⟨k.gw, 0, none⟩) n n) := H1.blk.cell 1
  have b2 : w1.cell? ⟨k.W, 2, none⟩ = some (.slice (some ⟨k.gl, 0, none⟩) n n) := H1.blk.cell 2
  have b3 : w1.cell? ⟨k.W, 3, none⟩ = some (.slice (some ⟨k.gp, 0, none⟩) n n) := H1.blk.cell 3
  have b4 : w1.cell? ⟨k.W, 4, none⟩ = some (.int .i64 ((s.tm : Int) + 1)) := by rw [← htt]; exact H1.blk.cell 4
  obtain ⟨r1, g1⟩ := int_cell H1.wh HP.out.wl han
  obtain ⟨r2, g2⟩ := int_cell H1.lo HP.out.ll han
  obtain ⟨r3, g3⟩ := int_cell H1.pa HP.out.pl han
  have n1 : ¬ (k.gw = k.gl) := H1.d1
  have n2 : ¬ (k.gw = k.gp) := H1.d2
  have n3 : ¬ (k.gl = k.gp) := H1.d3
  have m1 : ¬ (k.W = k.gw) := H1.w1
  have m2 : ¬ (k.W = k.gl) := H1.w2
  have m3 : ¬ (k.W = k.gp) := H1.w3
  have hai : (a : Int) < (n : Int) := by omega
  have ha0 : (0 : Int) ≤ (a : Int) := by omega
  have H1' := Lib.hid H1
  clear H1 c4 f4 H
  go_region
  have H2 : Hid (WkAt w0 n k vE vJ (DF.start a p s) ((((w1.setCell ⟨k.gw, a, none⟩ (.int .i64 ((s.tm : Int) + 1))).setCell ⟨k.gl, a, none⟩ (.int .i64 ((s.tm : Int) + 1))).setCell ⟨k.gp, a, none⟩ (.int .i64 (p : Int))).drew)) := by
    unfold DF.start Hid
    rw [htt]
    exact (((H1'.out.setW a _).setL a _).setP a _).drew
  generalize (((w1.setCell ⟨k.gw, a, none⟩ (.int .i64 ((s.tm : Int) + 1))).setCell ⟨k.gl, a, none⟩ (.int .i64 ((s.tm : Int) + 1))).setCell ⟨k.gp, a, none⟩ (.int .i64 (p : Int))).drew = w2 at H2 ⊢
  clear H1' b1 b2 b3 b4 r1 r2 r3 g1 g2 g3 htt n1 n2 n3 m1 m2 m3 hwt
  have b0 : w2.cell? ⟨k.W, 0, none⟩ = some (.slice (some ⟨Gb, 0, none⟩) n cb) := by rw [← HK.out]; exact H2.out.blk.cell 0
  obtain ⟨A, c, hrow0, hA, hmx⟩ := HB.out.row a han
  have hGS : ¬ k.S Gb := fun q => by have := hS _ q; have := hI.1; have := HB.out.lt; omega
  have hrow := (H2.out.chg.cell (p := ⟨Gb, a, none⟩) HB.out.lt hGS).trans hrow0
  have HNS : Hid (∀ ad : Addr, A = some ad → ad.block < w0.heap.size → ¬ k.S ad.block) := fun ad h1 h2 q => by have := hS _ q; have := hI.2 a han A _ _ hrow0 ad h1; omega
  clear hrow0 hGS hI hS
  obtain ⟨m, hm⟩ : ∃ m, m = (N a).length := ⟨_, rfl⟩
  rw [← hm] at hrow hmx
  have HA : Hid (IntsAt w0 A ((N a).map fun (x : Nat) => (x : Int))) := hA
  have HM := Lib.hid hm
  clear hA hm
  go_wp2
  go_loopw [54, 8, 9] (fun vi vk vj wl => ∃ i : Nat, i ≤ m ∧ vi = .int .i64 i ∧ vk = .int .i64 ((DF.qa N p f a fr s i).2.1 : Nat) ∧ vj = .bool (DF.qa N p f a fr s i).2.2 ∧ Hid (∃ vE vJ, WkAt w0 n k vE vJ (DF.qa N p f a fr s i).1 wl)) (fun vi _ _ _ => m - (intOf vi).toNat)
  case atStart => exact ⟨0, by omega, rfl, by rw [DF.qa_zero]; rfl, by rw [DF.qa_zero], _, _, by rw [DF.qa_zero]; exact H2.out⟩
  case round =>
    obtain ⟨i, hi, rfl, rfl, rfl, hR⟩ := hrel
    obtain ⟨q, hq⟩ : ∃ q, q = DF.qa N p f a fr s i := ⟨_, rfl⟩
    have hat := HQ.out i
    rw [← hq] at hat hR ⊢
    obtain ⟨hok, hbd, hkids, hpre⟩ := hat
    obtain ⟨s1, kc, jb⟩ := q
    simp only at hok hbd hkids hpre hR ⊢
    have HQE := Lib.hid hq
    have HOK := Lib.hid hok
    have HBD := Lib.hid hbd
    have HPRE := Lib.hid hpre
    obtain ⟨vE1, vJ1, hW⟩ := hR.out
    have H3 := Lib.hid hW
    clear hq hok hbd hpre hW hR H2
    by_cases him : i < m
    · have him' : (i : Int) < (m : Int) := by omega
      have hi0 : (0 : Int) ≤ (i : Int) := by omega
      obtain ⟨b, hb⟩ : ∃ b, (N a)[i]? = some b := ⟨_, List.getElem?_eq_getElem (by rw [← HM.out]; exact him)⟩
      have hbm := (HN.out a han b).1 (List.mem_of_getElem? hb)
      obtain ⟨hbn, hadj⟩ := hbm
      have hne : a ≠ b := by rintro rfl; exact HNL.out _ hadj
      have hkc : kc ≤ 400 := by omega
      have hed : s1.ed.length ≤ 60 := by have := HBD.out.ed; have := HBD.out.un; omega
      have HCC : Hid (b ≠ fr → ¬ 0 < PD.g s1.wh b → Calls Tryz.prog 98 #[.pointer (some ⟨k.W, 0, none⟩), .int .i64 (b : Int), .int .i64 (a : Int), .int .i64 (p : Int)] wr (WkPost w0 n k (DF.visit N p f b a s1)) ∧ DF.Ok n (DF.visit N p f b a s1) ∧ (DF.visit N p f b a s1).ed.length + 1 ≤ 60) := fun _ hv => by
        obtain ⟨hp1, hp2⟩ := HPRE.out b hadj hv
        have hbd2 := HVB.out f b a (ke + 1) (kj + 1) s1 hp1 hp2 HBD.out
        exact ⟨HIH.out b a (ke + 1) (kj + 1) s1 vE1 vJ1 wr hp1 hp2 HBD.out H3.out, HVP.out f b a s1 hp1 hp2, by have := hbd2.ed; have := hbd2.un; omega⟩
      obtain ⟨bs, off, rfl, hcb⟩ : ∃ bs off, A = some ⟨bs, off, none⟩ ∧ wr.cell? ⟨bs, off + i, none⟩ = some (.int .i64 (b : Int)) := by
        rcases HA.out with h0 | ⟨bs, off, rfl, hlt, hc⟩
        · have := congrArg List.length h0
          simp only [List.length_map, List.length_nil] at this
          have := HM.out
          omega
        · exact ⟨bs, off, rfl, (H3.out.chg.cell (p := ⟨bs, off + i, none⟩) hlt (HNS.out ⟨bs, off, none⟩ rfl hlt)).trans (hc i _ (by rw [List.getElem?_map, hb]; rfl))⟩
      have HS : Hid (DF.qa N p f a fr s (i + 1) = DF.kid (fun b s => DF.visit N p f b a s) a fr (s1, kc, jb) b) := by rw [Hid, HQE.out]; exact DF.qa_succ hb
      clear hb hadj
      go_upto_block 1 with fail
      refine wkBlk_any HS.out han hbn hn hne hkc him hcb H3 HOK hed HCC _ _ ?_
      intro v55 v56 v57 v58 v59 v60 v61 v62 v63 v64 v65 v66 v67 v68 v69 v70 v71 v72 v73 v74 v75 v76 v77 v78 v79 v80 v81 v82 v83 v84 v85 v86 v87 v88 v89 v90 v91 v92 v93 v94 v95 v96 v97 v98 v99 v100 v101 v102 v103 v104 v105 v106 v107 v108 v109 v110 v111 v112 v113 v114 v115 v116 v117 v118 v119 v120 v121 v122 v123 v124 v125 v126 v127 v128 v129 v130 v131 v132 v133 v134 v135 v136 v137 v138 v139 v140 v141 v142 v143 v144 v145 v146 v147 v148 v149 v150 v151 v152 v153 v154 v155 v156 v157 v158 v159 v160 v161 v162 v163 v164 v165 v166 vE' vJ' w4 hw4
      have H4 := Lib.hid hw4
      clear hw4 H3 hcb HCC HS
      go_wp2
      go_roundw
      case rel => exact ⟨i + 1, by omega, by go_num, rfl, rfl, _, _, H4.out⟩
      case measure => simp [intOf]; omega
    · have e : i = m := by omega
      subst e
      have HF : Hid (DF.visit N p (f + 1) a fr s = DF.fin a fr (s1, kc, jb)) := by rw [Hid, DF.qa_all, ← HM.out, HQE.out]
      have hjo : s1.jo.length ≤ 60 := by have := HBD.out.jo; have := HBD.out.un; omega
      have hed : s1.ed.length ≤ 60 := by have := HBD.out.ed; have := HBD.out.un; omega
      by_cases ef : fr = a
      · have e1 : ((fr : Int) == (a : Int)) = true := by simp; omega
        have e2 : ((fr : Int) != (a : Int)) = false := by simp; omega
        by_cases hk1 : 1 < kc
        · have e3 : decide ((1 : Int) < (kc : Int)) = true := by simp; omega
          have HG : Hid (DF.fin a fr (s1, kc, jb) = { s1 with jo := s1.jo ++ [a] }) := by unfold Hid DF.fin; rw [if_pos (.inr ⟨ef, hk1⟩)]
          subst ef
          go_upto_region 17 with fail
          refine wk17_any (jb := false) han han hn H3 HOK hed hjo _ ?_
          intro v183 v184 v185 v186 v187 v188 v189 v190 v191 v192 vJ' w4 hw4
          have HZ : Hid (WkPost w0 n k (DF.visit N p (f + 1) fr fr s) (.returned (.tuple #[])) w4) := ⟨rfl, _, _, by rw [HF.out, HG.out]; exact hw4⟩
          clear hw4
          go_wp2
          go_end0
          exact HZ.out
        · have e3 : decide ((1 : Int) < (kc : Int)) = false := by simp; omega
          have HG : Hid (DF.fin a fr (s1, kc, jb) = s1) := by unfold Hid DF.fin; rw [if_neg (by simp only; omega)]
          have HZ : Hid (WkPost w0 n k (DF.visit N p (f + 1) a fr s) (.returned (.tuple #[])) wr) := ⟨rfl, _, _, by rw [HF.out, HG.out]; exact H3.out⟩
          subst ef
          go_wp2
          go_end0
          exact HZ.out
      · have e1 : ((fr : Int) == (a : Int)) = false := by simp; omega
        have e2 : ((fr : Int) != (a : Int)) = true := by simp; omega
        cases jb
        · have HG : Hid (DF.fin a fr (s1, kc, false) = s1) := by unfold Hid DF.fin; rw [if_neg (by simp [ef])]
          have HZ : Hid (WkPost w0 n k (DF.visit N p (f + 1) a fr s) (.returned (.tuple #[])) wr) := ⟨rfl, _, _, by rw [HF.out, HG.out]; exact H3.out⟩
          go_wp2
          go_end0
          exact HZ.out
        · have HG : Hid (DF.fin a fr (s1, kc, true) = { s1 with jo := s1.jo ++ [a] }) := by unfold Hid DF.fin; rw [if_pos (.inl ⟨ef, rfl⟩)]
          go_upto_region 17 with fail
          refine wk17_any (jb := false) han han hn H3 HOK hed hjo _ ?_
          intro v183 v184 v185 v186 v187 v188 v189 v190 v191 v192 vJ' w4 hw4
          have HZ : Hid (WkPost w0 n k (DF.visit N p (f + 1) a fr s) (.returned (.tuple #[])) w4) := ⟨rfl, _, _, by rw [HF.out, HG.out]; exact hw4⟩
          clear hw4
          go_wp2
          go_end0
          exact HZ.out
/-- The walker's walk does as its model. -/
theorem walkB_any (w0 : World) (n Gb cb : Nat) (l : List AK.Ed) (N : Nat → List Nat) (k : Wkr) (hk : k.vB = .slice (some ⟨Gb, 0, none⟩) n cb) (hB : BesAt w0 Gb n N) (B : Nat) (hI : BesIn B w0 Gb n) (hS : ∀ j, k.S j → j < B ∨ w0.heap.size ≤ j) (hN : DF.Bes n l N) (hl : ∀ u, ¬ PD.adj l u u) (hin : ∀ u v, PD.adj l u v → v < n) (hn : n ≤ 60) (p : Nat) : ∀ (f a fr ke kj : Nat) (s : DF.Wk) (vE vJ : Value) (wr : World), DF.Pre n l a fr s → DF.unv n s ≤ f → DF.Bd n ke kj s → WkAt w0 n k vE vJ s wr →
      Calls Tryz.prog 98 #[.pointer (some ⟨k.W, 0, none⟩), .int .i64 (a : Int), .int .i64 (fr : Int), .int .i64 (p : Int)] wr (WkPost w0 n k (DF.visit N p f a fr s))
  | 0, a, fr, ke, kj, s, vE, vJ, wr, hP, hf, hb, h => by
    have := (DF.begun (p := p) hP hl).fewer hP
    omega
  | f + 1, a, fr, ke, kj, s, vE, vJ, wr, hP, hf, hb, h => visit_any w0 n Gb cb l N k hk hB B hI hS hN hl hin hn p f (walkB_any w0 n Gb cb l N k hk hB B hI hS hN hl hin hn p f) a fr ke kj s vE vJ wr hP hf hb h
end Go.Proofs.YthgniehfejklhaaGreat
namespace Go.Proofs.YthgniehfejklhaaGreat
open Go Go.RowKit
set_option linter.unusedVariables false

set_option maxHeartbeats 2000000 in
set_option maxRecDepth 100000 in
theorem beside_in (w : World) (n : Nat) (A : Option Addr) (m c : Nat) (l : List AK.Ed) (hl : l.length = m) (h : EdsAt w A l) (hf : Fine n l) (hn0 : 0 < n) (hn : n ≤ 60) :
    Calls Tryz.prog 70 #[.int .i64 n, .slice A m c] w (BesPost2 w n l) := by
  obtain ⟨cs, hcs, hmk⟩ := run_rows n (by omega)
  have H := Lib.hid h
  have HL := Lib.hid hl
  have HF := Lib.hid hf
  have hm2 : m ≤ 200 := by rw [← hl]; exact hf.1
  have HB0 : Hid (BsV w n w.heap.size (fun v => nbs [] v) (fun _ => .slice none 0 0) (w.alloc (.cells cs 23))) := by
    have e : cs = rowV n (fun _ => .slice none 0 0) := by
      have : (rowV n (fun _ => Value.slice none 0 0)).toList = cs.toList := by rw [hcs]; simp only [rowV]; rw [List.map_const', List.length_range]
      exact (Array.toList_inj.1 this).symm
    refine ⟨by rw [e]; exact Blk.new _ _ _, fun v hv => by simpa [nbs, intsV] using World.ownsRow_nil _ 0 3 1, fun v hv k hk => by simp [Value.ownBlock] at hk, fun u v hu hv huv k hk => by simp [Value.ownBlock] at hk, Ext.alloc _ _, Nat.le_refl _⟩
  clear h hl hf hcs
  have hn0' : (0 : Int) ≤ (n : Int) := by omega
  go_enter Tryz.func70, Tryz.ntmps70
  go_wp2
  obtain ⟨G, hG⟩ : ∃ x, x = w.heap.size := ⟨_, rfl⟩
  rw [← hG] at HB0 ⊢
  have HG := Lib.hid hG
  clear hG
  go_loopw [14] (fun v wr => ∃ i : Nat, i ≤ m ∧ v = .int .i64 i ∧ Hid (∃ V, BsV w n G (fun v => nbs (l.take i) v) V wr)) (fun v _ => m - (intOf v).toNat)
  case atStart => exact ⟨0, by omega, rfl, _, by rw [List.take_zero]; exact HB0.out⟩
  case round =>
    obtain ⟨i, hi, rfl, hR⟩ := hrel
    clear HB0
    by_cases him : i < m
    · have him' : (i : Int) < (m : Int) := by omega
      have hi0 : (0 : Int) ≤ (i : Int) := by omega
      obtain ⟨V, hV⟩ := hR.out
      obtain ⟨bs, off, rfl, hbs, u, v, hlu, huv, hv, b0, b1⟩ := edge_at H.out HL.out HF.out him
      have b0 := (hV.ext.cell (p := ⟨bs, off + i * 2, none⟩) hbs).trans b0
      have b1 := (hV.ext.cell (p := ⟨bs, off + i * 2 + 1, none⟩) hbs).trans b1
      have hu : u < n := by omega
      have hu' : (u : Int) < (n : Int) := by omega
      have hv' : (v : Int) < (n : Int) := by omega
      have HLU := Lib.hid hlu
      have HV1 : Hid (BsV w n G (fun v => nbs (l.take i) v) V (wr.alloc (.cells #[.int .i64 u, .int .i64 v] 49))) := hV.moved (Ext.alloc _ _)
      have HX1 : Hid (Blk (wr.alloc (.cells #[.int .i64 u, .int .i64 v] 49)) wr.heap.size 49 #[.int .i64 u, .int .i64 v]) := Blk.new _ _ _
      clear hV hR hlu
      go_upto_region 5 with fail
      generalize wr.alloc (.cells #[.int .i64 u, .int .i64 v] 49) = w1 at HV1 HX1 ⊢
      generalize wr.heap.size = gx at HX1 ⊢
      clear b0 b1
      have hrl : (nbs (l.take i) u).length ≤ 400 := by have := nbs_len (l.take i) u; rw [List.length_take] at this; omega
      go_cut [] from 18 to 30 (fun wx => ∃ w3, w3 = wx ∧ Hid (∃ V2, BsV w n G (upd (fun v => nbs (l.take i) v) u (nbs (l.take i) u ++ [(v : Int)])) V2 w3 ∧ Blk w3 gx 49 #[.int .i64 u, .int .i64 v]))
      case first =>
        obtain ⟨c1, f1⟩ := HV1.out.cell hu
        have x0 : w1.cell? ⟨gx, 0, none⟩ = some (.int .i64 u) := HX1.out.cell 0
        have x1 : w1.cell? ⟨gx, 1, none⟩ = some (.int .i64 v) := HX1.out.cell 1
        have c1o : ∀ o, (w1.alloc o).cell? ⟨G, u, none⟩ = some (V u) := fun o => ((HV1.out.moved (Ext.alloc w1 o)).cell hu).1
        have x0o : ∀ o, (w1.alloc o).cell? ⟨gx, 0, none⟩ = some (.int .i64 u) := fun o => (HX1.out.alloc o).cell 0
        have x1o : ∀ o, (w1.alloc o).cell? ⟨gx, 1, none⟩ = some (.int .i64 v) := fun o => (HX1.out.alloc o).cell 1
        have HNX : Hid ((V u).ownBlock ≠ some gx) := own_ne (HV1.out.row u hu) HX1.out (by decide)
        have HGG : Hid (gx ≠ G) := HX1.out.ne_ HV1.out.blk (by decide)
        go_region_law (first
          | (refine step_push _ (by rfl) (.tmp 25) (.tmp 28) 23 rfl 3 (.int .i64 0) 8 Tryz.underlying23 infoI (by rfl) (V u) _ _ (by rfl) ((HV1.out.moved (Ext.trans (Ext.alloc w1 (.cells #[.int .i64 v] 3)) (Ext.drew _))).row u hu) ⟨by omega, by omega⟩ (.int .i64 v) w1.heap.size (by rfl) (cell_new1 rfl _ _) (by rfl) ?_; intro g2 c2 w2 ho hc hat; obtain ⟨q1, q2, HN⟩ := BsV.push (HV1.out.moved (Ext.trans (Ext.alloc w1 (.cells #[.int .i64 v] 3)) (Ext.drew _))) hu ho hc hat; have HX2 : Hid (Blk w2 gx 49 #[.int .i64 u, .int .i64 v]) := Blk.chg (S := fun k => (V u).ownBlock = some k) (HX1.out.alloc (.cells #[.int .i64 v] 3)).drew hc HNX.out; have y0 : w2.cell? ⟨gx, 0, none⟩ = some (.int .i64 u) := HX2.out.cell 0; have y1 : w2.cell? ⟨gx, 1, none⟩ = some (.int .i64 v) := HX2.out.cell 1; clear ho hc hat) | fail)
        all_goals
          have HCUT : Hid (∃ V2, BsV w n G (upd (fun v => nbs (l.take i) v) u (nbs (l.take i) u ++ [(v : Int)])) V2 (w2.setCell ⟨G, u, none⟩ (.slice (some ⟨g2, 0, none⟩) ((nbs (l.take i) u).length + 1) c2)) ∧ Blk (w2.setCell ⟨G, u, none⟩ (.slice (some ⟨g2, 0, none⟩) ((nbs (l.take i) u).length + 1) c2)) gx 49 #[.int .i64 u, .int .i64 v]) := ⟨_, HN.out, HX2.out.far (p := ⟨G, u, none⟩) HGG.out _⟩
          clear q1 q2 y0 y1 HX2 HN c1 f1 x0 x1 c1o x0o x1o HNX
          go_wp2
          go_meet
          exact ⟨_, rfl, HCUT⟩
      case rest =>
       obtain ⟨w3, hw3, hcut2⟩ := hcut
       subst hw3
       obtain ⟨V3, hV3, hX3⟩ := hcut2.out
       obtain ⟨R2, hR2⟩ : ∃ R2, R2 = upd (fun v => nbs (l.take i) v) u (nbs (l.take i) u ++ [(v : Int)]) := ⟨_, rfl⟩
       rw [← hR2] at hV3
       have HR2 := Lib.hid hR2
       have HV3 := Lib.hid hV3
       have HX3 := Lib.hid hX3
       clear hR2 hV3 hX3 HV1 HX1 hcut2
       go_wp2
       have hrl2 : (R2 v).length ≤ 400 := by
         rw [HR2.out]; simp only [upd]; rw [if_neg (by omega)]
         have := nbs_len (l.take i) v; rw [List.length_take] at this; omega
       obtain ⟨c1, f1⟩ := HV3.out.cell hv
       have x0 : w3.cell? ⟨gx, 0, none⟩ = some (.int .i64 u) := HX3.out.cell 0
       have x1 : w3.cell? ⟨gx, 1, none⟩ = some (.int .i64 v) := HX3.out.cell 1
       have c1o : ∀ o, (w3.alloc o).cell? ⟨G, v, none⟩ = some (V3 v) := fun o => ((HV3.out.moved (Ext.alloc w3 o)).cell hv).1
       have x0o : ∀ o, (w3.alloc o).cell? ⟨gx, 0, none⟩ = some (.int .i64 u) := fun o => (HX3.out.alloc o).cell 0
       have x1o : ∀ o, (w3.alloc o).cell? ⟨gx, 1, none⟩ = some (.int .i64 v) := fun o => (HX3.out.alloc o).cell 1
       have HNX : Hid ((V3 v).ownBlock ≠ some gx) := own_ne (HV3.out.row v hv) HX3.out (by decide)
       have HGG : Hid (gx ≠ G) := HX3.out.ne_ HV3.out.blk (by decide)
       go_region_law (first
         | (refine step_push _ (by rfl) (.tmp 38) (.tmp 41) 23 rfl 3 (.int .i64 0) 8 Tryz.underlying23 infoI (by rfl) (V3 v) _ _ (by rfl) ((HV3.out.moved (Ext.trans (Ext.alloc w3 (.cells #[.int .i64 u] 3)) (Ext.drew _))).row v hv) ⟨by omega, by omega⟩ (.int .i64 u) w3.heap.size (by rfl) (cell_new1 rfl _ _) (by rfl) ?_; intro g2 c2 w4 ho hc hat; obtain ⟨q1, q2, HN⟩ := BsV.push (HV3.out.moved (Ext.trans (Ext.alloc w3 (.cells #[.int .i64 u] 3)) (Ext.drew _))) hv ho hc hat; have HX2 : Hid (Blk w4 gx 49 #[.int .i64 u, .int .i64 v]) := Blk.chg (S := fun k => (V3 v).ownBlock = some k) (HX3.out.alloc (.cells #[.int .i64 u] 3)).drew hc HNX.out; have y0 : w4.cell? ⟨gx, 0, none⟩ = some (.int .i64 u) := HX2.out.cell 0; have y1 : w4.cell? ⟨gx, 1, none⟩ = some (.int .i64 v) := HX2.out.cell 1; clear ho hc hat) | fail)
       all_goals
         have HF4 : Hid (∃ V, BsV w n G (fun z => nbs (l.take (i + 1)) z) V (w4.setCell ⟨G, v, none⟩ (.slice (some ⟨g2, 0, none⟩) ((R2 v).length + 1) c2))) := by
           have e : upd R2 v (R2 v ++ [(u : Int)]) = fun z => nbs (l.take (i + 1)) z := funext fun z => by
             rw [HR2.out, take_snoc' HLU.out, nbs_snoc]
             by_cases ez : z = v
             · subst ez
               simp [upd, show ¬ z = u by omega, show ¬ (u : Int) = (z : Int) by omega]
             · by_cases eu : z = u
               · subst eu
                 simp [upd, ez, show ¬ (v : Int) = (z : Int) by omega]
               · simp [upd, ez, eu, show ¬ (v : Int) = (z : Int) by omega, show ¬ (u : Int) = (z : Int) by omega]
           exact ⟨_, by rw [← e]; exact HN.out⟩
         clear HN q1 q2 y0 y1 HX2 c1 f1 x0 x1 c1o x0o x1o HNX HV3 HX3 HR2
         go_wp2
         go_roundw
         case rel => exact ⟨i + 1, by omega, by go_num, HF4⟩
         case measure => simp [intOf]; omega
    · have e : i = m := by omega
      subst e
      obtain ⟨V, hV⟩ := hR.out
      rw [show l.take i = l by rw [← HL.out]; exact List.take_length] at hV
      have HS0 : Hid (BsV w n G (fun z => if z < 0 then sorted (nbs l z) else nbs l z) V wr) := by unfold Hid; simpa using hV
      clear hR hV
      go_wp2
      obtain ⟨wq, hwq⟩ : ∃ x, x = wr := ⟨_, rfl⟩
      subst hwq
      go_loopw [47] (fun v wr => ∃ k : Nat, k ≤ n ∧ v = .int .i64 k ∧ Hid (BsV w n G (fun z => if z < k then sorted (nbs l z) else nbs l z) V wr)) (fun v _ => n - (intOf v).toNat)
      case atStart => exact ⟨0, by omega, rfl, HS0⟩
      case round =>
        obtain ⟨k, hk, rfl, hS⟩ := hrel
        clear HS0
        by_cases hkn : k < n
        · have hkn' : (k : Int) < (n : Int) := by omega
          have hk0 : (0 : Int) ≤ (k : Int) := by omega
          obtain ⟨c1, f1⟩ := hS.out.cell hkn
          have hrow := hS.out.row k hkn
          simp only [if_neg (Nat.lt_irrefl k)] at hrow
          have HRW := Lib.hid hrow
          have hnl : (nbs l k).length ≤ 1000 := by have := nbs_len l k; have := HF.out.1; omega
          clear hrow
          go_wp2_with fail
          refine (sort_any wr (V k) _ _ HRW.out hnl).mono ?_
          rintro e w2 ⟨rfl, ho, hc⟩
          have HS2 : Hid (BsV w n G (fun z => if z < k + 1 then sorted (nbs l z) else nbs l z) V w2) := by
            have h1 := hS.out.sort hkn (by simpa using ho) hc
            have e : upd (fun z => if z < k then sorted (nbs l z) else nbs l z) k (sorted ((fun z => if z < k then sorted (nbs l z) else nbs l z) k)) = fun z => if z < k + 1 then sorted (nbs l z) else nbs l z := funext fun z => by
              simp only [upd]
              by_cases ez : z = k
              · subst ez; simp
              · rw [if_neg ez]
                by_cases hz : z < k
                · rw [if_pos hz, if_pos (by omega)]
                · rw [if_neg hz, if_neg (by omega)]
            rw [← e]; exact h1
          clear ho hc c1 f1 hS
          go_wp2
          go_roundw
          case rel => exact ⟨k + 1, by omega, by go_num, HS2⟩
          case measure => simp [intOf]; omega
        · have e : k = n := by omega
          subst e
          have HP : Hid (BesPost2 w k l (.returned (.slice (some ⟨G, 0, none⟩) k k)) wr) := by
            obtain ⟨N, h1, h2, h3⟩ := hS.out.done (l := l) (fun z hz => by simp [hz]) HF.out
            exact ⟨G, k, N, rfl, h1, h2, h3, hS.out.ext, hS.out.inn⟩
          clear hS
          go_wp2
          go_ret
          exact HP.out
theorem beside_any (w : World) (n : Nat) (A : Option Addr) (m c : Nat) (l : List AK.Ed) (hl : l.length = m) (h : EdsAt w A l) (hf : Fine n l) (hn0 : 0 < n) (hn : n ≤ 60) :
    Calls Tryz.prog 70 #[.int .i64 n, .slice A m c] w (BesPost w n l) :=
  (beside_in w n A m c l hl h hf hn0 hn).mono fun _ _ ⟨G, c, N, h1, h2, h3, h4, h5, _⟩ => ⟨G, c, N, h1, h2, h3, h4, h5⟩
end Go.Proofs.YthgniehfejklhaaGreat
namespace Go.Proofs.YthgniehfejklhaaGreat
open Go Go.RowKit
set_option linter.unusedVariables false

theorem step_callW {P : Program} {ops : Array Oper} {o : Oper} {a : Act} {w : World} {K : Act → World → Prop} {Q : Exit → Act → World → Prop} {E : Prop} {Post : Ending → World → Prop}
    (hg : o.guard = none) (f : Nat) (args : Array Operand) (tys : Array TypeId) (hop : o.op = .call { callee := .value (.func f), args := args, argTypes := tys }) (vs : Array Value) (hv : args.map a.eval = vs)
    (hcf : (callFunc f vs).run P w = .ok (.enter f vs) w) (hc : Calls P f vs w Post)
    (hK : ∀ e w', Post e w' → ∃ v, e = .returned v ∧ K (a.put o.dst v) w') :
    if Region.wanted o (yielded ops a.tmps) = true then Oper.wp P o a w K Q else E := by
  have hw : Region.wanted o (yielded ops a.tmps) = true := by simp [Region.wanted, hg]
  rw [if_pos hw]
  have hr : (execOp a.eval o).run P w = .ok (.enter f vs) w := by
    subst hv
    simp [execOp, hop, resolve, invoke, Act.eval, Deferred.ofValue, hcf]
  unfold Oper.wp
  rw [hr, Oper.upon_enter]
  refine hc.mono (fun e w' h => ?_)
  obtain ⟨v, rfl, h2⟩ := hK e w' h
  exact h2
theorem callsBeside : ∀ args w, (callFunc 70 args).run Tryz.prog w = .ok (.enter 70 args) w := enters_of Tryz.func70 (by kernel_rfl) rfl
/-- The walker, made. -/
structure WdSt (w w0 wr : World) (n : Nat) (l : List AK.Ed) (k : Wkr) (N : Nat → List Nat) (G cb B : Nat) : Prop where
  ext : Ext w w0
  vB : k.vB = .slice (some ⟨G, 0, none⟩) n cb
  bes : BesAt w0 G n N
  of_ : BesOf n l N
  inn : BesIn B w0 G n
  S : ∀ j, k.S j → j < B ∨ w0.heap.size ≤ j
  sS : ∀ j, k.S j → w.heap.size ≤ j
  at_ : WkAt w0 n k (.slice none 0 0) (.slice none 0 0) (DF.zero n) wr
def BesGot (W w1 : World) (n : Nat) (l : List AK.Ed) (G : Nat) (N : Nat → List Nat) : Prop := BesAt w1 G n N ∧ BesOf n l N ∧ Ext W w1 ∧ BesIn W.heap.size w1 G n
theorem own_zero {w : World} {g n : Nat} {cs : Array Value} (h : Blk w g 3 cs) (hcs : cs.toList = List.replicate n (.int .i64 0)) (hn : n ≤ 60) : w.ownsRow 0 3 1 (.slice (some ⟨g, 0, none⟩) n n) n (intsV (List.replicate n 0)) := by
  have hl : cs.size = n := by have := congrArg List.length hcs; simpa using this
  refine ⟨by simp [intsV], .inr ⟨g, n, cs, rfl, Nat.zero_le _, h, Nat.le_refl _, by unfold maxLen; omega, by omega, ?_⟩⟩
  rw [hcs]; simp [intsV]
theorem wd_start {w W w1 wf : World} {n G gw gl gp X cb : Nat} {N : Nat → List Nat} {l : List AK.Ed} {cs : Array Value} (hcs : cs.toList = List.replicate n (.int .i64 0)) (hn : n ≤ 60) (h : BesGot W w1 n l G N) (hxW : Ext w W) (hxf : Ext w1 wf) (hX : X = wf.heap.size) (bw : Blk wf gw 3 cs) (bl : Blk wf gl 3 cs) (bp : Blk wf gp 3 cs)
    (sw : w.heap.size ≤ gw ∧ (gw < W.heap.size ∨ w1.heap.size ≤ gw)) (sl : w.heap.size ≤ gl ∧ (gl < W.heap.size ∨ w1.heap.size ≤ gl)) (sp : w.heap.size ≤ gp ∧ (gp < W.heap.size ∨ w1.heap.size ≤ gp)) (d1 : gw ≠ gl) (d2 : gw ≠ gp) (d3 : gl ≠ gp) :
    WdSt w w1 (wf.alloc (.cells #[.slice (some ⟨G, 0, none⟩) n cb, .slice (some ⟨gw, 0, none⟩) n n, .slice (some ⟨gl, 0, none⟩) n n, .slice (some ⟨gp, 0, none⟩) n n, .int .i64 0, .slice none 0 0, .slice none 0 0] 122)) n l ⟨X, gw, gl, gp, .slice (some ⟨G, 0, none⟩) n cb⟩ N G cb W.heap.size := by
  subst hX
  obtain ⟨h1, h2, h3, h4⟩ := h
  refine ⟨Ext.trans hxW h3, rfl, h1, h2, h4, ?_, ?_, ?_⟩
  · rintro j (rfl | rfl | rfl)
    · exact sw.2
    · exact sl.2
    · exact sp.2
  · rintro j (rfl | rfl | rfl)
    · exact sw.1
    · exact sl.1
    · exact sp.1
  · exact { blk := Blk.new _ _ _, wh := own_zero (bw.alloc _) hcs hn, lo := own_zero (bl.alloc _) hcs hn, pa := own_zero (bp.alloc _) hcs hn, ed := World.ownsRow_nil _ _ _ _, jo := World.ownsRow_nil _ _ _ _, d1 := d1, d2 := d2, d3 := d3, j1 := by simp [Value.ownBlock], j2 := by simp [Value.ownBlock], j3 := by simp [Value.ownBlock], nE := fun x hx => by simp [Value.ownBlock] at hx, nJ := fun x hx => by simp [Value.ownBlock] at hx, nW := hxf.size, chg := (Chg.new (Ext.trans hxf (Ext.alloc _ _)) _) }
theorem Blk.new_ {w : World} {g : Nat} {t : TypeId} {cs : Array Value} (h : g = w.heap.size) : Blk (w.alloc (.cells cs t)) g t cs := by subst h; exact Blk.new _ _ _
theorem World.size_drew_ (w : World) : w.drew.heap.size = w.heap.size := rfl
theorem World.size_alloc_ (w : World) (o : Obj) : (w.alloc o).heap.size = w.heap.size + 1 := by simp
theorem blk_on {w w1 : World} {g : Nat} {t : TypeId} {cs : Array Value} (h : Blk w g t cs) (hx : Ext w w1) : Blk w1 g t cs := h.chg (Chg.of_below hx) (by have := h.lt; omega)
def wkV (G gw gl gp n cb : Nat) : Array Value := #[.slice (some ⟨G, 0, none⟩) n cb, .slice (some ⟨gw, 0, none⟩) n n, .slice (some ⟨gl, 0, none⟩) n n, .slice (some ⟨gp, 0, none⟩) n n, .int .i64 0, .slice none 0 0, .slice none 0 0]
section
variable {w W w1 wf : World} {n G : Nat} {N : Nat → List Nat} {l : List AK.Ed} {cs : Array Value} {p0 p1 p2 X : Nat}
theorem wd_perm (hcs : cs.toList = List.replicate n (.int .i64 0)) (hn : n ≤ 60) (h : BesGot W w1 n l G N) (hxW : Ext w W) (hxf : Ext w1 wf) (hX : X = wf.heap.size)
    (h0 : Blk wf p0 3 cs ∧ w.heap.size ≤ p0 ∧ (p0 < W.heap.size ∨ w1.heap.size ≤ p0)) (h1 : Blk wf p1 3 cs ∧ w.heap.size ≤ p1 ∧ (p1 < W.heap.size ∨ w1.heap.size ≤ p1)) (h2 : Blk wf p2 3 cs ∧ w.heap.size ≤ p2 ∧ (p2 < W.heap.size ∨ w1.heap.size ≤ p2))
    (cb x y z : Nat) (hx : x = p0 ∨ x = p1 ∨ x = p2) (hy : y = p0 ∨ y = p1 ∨ y = p2) (hz : z = p0 ∨ z = p1 ∨ z = p2) (d1 : x ≠ y) (d2 : x ≠ z) (d3 : y ≠ z) :
    WdSt w w1 (wf.alloc (.cells (wkV G x y z n cb) 122)) n l ⟨X, x, y, z, .slice (some ⟨G, 0, none⟩) n cb⟩ N G cb W.heap.size := by
  have key : ∀ x, (x = p0 ∨ x = p1 ∨ x = p2) → Blk wf x 3 cs ∧ w.heap.size ≤ x ∧ (x < W.heap.size ∨ w1.heap.size ≤ x) := by
    rintro x (rfl | rfl | rfl)
    · exact h0
    · exact h1
    · exact h2
  exact wd_start hcs hn h hxW hxf hX (key x hx).1 (key y hy).1 (key z hz).1 (key x hx).2 (key y hy).2 (key z hz).2 d1 d2 d3
theorem wd_0 (hcs : cs.toList = List.replicate n (.int .i64 0)) (hn : n ≤ 60) (h : BesGot w.drew w1 n l G N) : ∀ (cb x y z : Nat), (x = w1.heap.size ∨ x = w1.heap.size + 1 ∨ x = w1.heap.size + 1 + 1) → (y = w1.heap.size ∨ y = w1.heap.size + 1 ∨ y = w1.heap.size + 1 + 1) → (z = w1.heap.size ∨ z = w1.heap.size + 1 ∨ z = w1.heap.size + 1 + 1) → x ≠ y → x ≠ z → y ≠ z →
    WdSt w w1 ((((w1.alloc (.cells cs 3)).alloc (.cells cs 3)).alloc (.cells cs 3)).alloc (.cells (wkV G x y z n cb) 122)) n l ⟨w1.heap.size + 1 + 1 + 1, x, y, z, .slice (some ⟨G, 0, none⟩) n cb⟩ N G cb w.drew.heap.size := by
  have hs : w.heap.size ≤ w1.heap.size := h.2.2.1.size
  refine wd_perm hcs hn h (Ext.drew _) (Ext.trans (Ext.trans (Ext.alloc _ _) (Ext.alloc _ _)) (Ext.alloc _ _)) (by simp) ⟨((Blk.new _ _ _).alloc _).alloc _, by omega, .inr (by omega)⟩ ⟨(Blk.new_ (by simp)).alloc _, by omega, .inr (by omega)⟩ ⟨Blk.new_ (by simp), by omega, .inr (by omega)⟩
theorem wd_1 (hcs : cs.toList = List.replicate n (.int .i64 0)) (hn : n ≤ 60) (h : BesGot (w.alloc (.cells cs 3)).drew w1 n l G N) : ∀ (cb x y z : Nat), (x = w.heap.size ∨ x = w1.heap.size ∨ x = w1.heap.size + 1) → (y = w.heap.size ∨ y = w1.heap.size ∨ y = w1.heap.size + 1) → (z = w.heap.size ∨ z = w1.heap.size ∨ z = w1.heap.size + 1) → x ≠ y → x ≠ z → y ≠ z →
    WdSt w w1 (((w1.alloc (.cells cs 3)).alloc (.cells cs 3)).alloc (.cells (wkV G x y z n cb) 122)) n l ⟨w1.heap.size + 1 + 1, x, y, z, .slice (some ⟨G, 0, none⟩) n cb⟩ N G cb (w.alloc (.cells cs 3)).drew.heap.size := by
  have hs : w.heap.size + 1 ≤ w1.heap.size := by have := h.2.2.1.size; rw [World.size_drew_, World.size_alloc_] at this; exact this
  have hW : (w.alloc (.cells cs 3)).drew.heap.size = w.heap.size + 1 := by rw [World.size_drew_, World.size_alloc_]
  refine wd_perm hcs hn h (Ext.trans (Ext.alloc _ _) (Ext.drew _)) (Ext.trans (Ext.alloc _ _) (Ext.alloc _ _)) (by simp) ⟨((blk_on ((Blk.new w 3 cs).drew) h.2.2.1).alloc _).alloc _, by omega, .inl (by omega)⟩ ⟨(Blk.new _ _ _).alloc _, by omega, .inr (by omega)⟩ ⟨Blk.new_ (by simp), by omega, .inr (by omega)⟩
theorem wd_2 (hcs : cs.toList = List.replicate n (.int .i64 0)) (hn : n ≤ 60) (h : BesGot ((w.alloc (.cells cs 3)).alloc (.cells cs 3)).drew w1 n l G N) : ∀ (cb x y z : Nat), (x = w.heap.size ∨ x = w.heap.size + 1 ∨ x = w1.heap.size) → (y = w.heap.size ∨ y = w.heap.size + 1 ∨ y = w1.heap.size) → (z = w.heap.size ∨ z = w.heap.size + 1 ∨ z = w1.heap.size) → x ≠ y → x ≠ z → y ≠ z →
    WdSt w w1 ((w1.alloc (.cells cs 3)).alloc (.cells (wkV G x y z n cb) 122)) n l ⟨w1.heap.size + 1, x, y, z, .slice (some ⟨G, 0, none⟩) n cb⟩ N G cb ((w.alloc (.cells cs 3)).alloc (.cells cs 3)).drew.heap.size := by
  have hW : ((w.alloc (.cells cs 3)).alloc (.cells cs 3)).drew.heap.size = w.heap.size + 1 + 1 := by rw [World.size_drew_, World.size_alloc_, World.size_alloc_]
  have hs : w.heap.size + 1 + 1 ≤ w1.heap.size := by have := h.2.2.1.size; rw [hW] at this; exact this
  refine wd_perm hcs hn h (Ext.trans (Ext.trans (Ext.alloc _ _) (Ext.alloc _ _)) (Ext.drew _)) (Ext.alloc _ _) (by simp) ⟨(blk_on (((Blk.new w 3 cs).alloc _).drew) h.2.2.1).alloc _, by omega, .inl (by omega)⟩ ⟨(blk_on ((Blk.new_ (by simp)).drew) h.2.2.1).alloc _, by omega, .inl (by omega)⟩ ⟨Blk.new _ _ _, by omega, .inr (by omega)⟩
theorem wd_3 (hcs : cs.toList = List.replicate n (.int .i64 0)) (hn : n ≤ 60) (h : BesGot (((w.alloc (.cells cs 3)).alloc (.cells cs 3)).alloc (.cells cs 3)).drew w1 n l G N) : ∀ (cb x y z : Nat), (x = w.heap.size ∨ x = w.heap.size + 1 ∨ x = w.heap.size + 1 + 1) → (y = w.heap.size ∨ y = w.heap.size + 1 ∨ y = w.heap.size + 1 + 1) → (z = w.heap.size ∨ z = w.heap.size + 1 ∨ z = w.heap.size + 1 + 1) → x ≠ y → x ≠ z → y ≠ z →
    WdSt w w1 (w1.alloc (.cells (wkV G x y z n cb) 122)) n l ⟨w1.heap.size, x, y, z, .slice (some ⟨G, 0, none⟩) n cb⟩ N G cb (((w.alloc (.cells cs 3)).alloc (.cells cs 3)).alloc (.cells cs 3)).drew.heap.size := by
  have hW : (((w.alloc (.cells cs 3)).alloc (.cells cs 3)).alloc (.cells cs 3)).drew.heap.size = w.heap.size + 1 + 1 + 1 := by rw [World.size_drew_, World.size_alloc_, World.size_alloc_, World.size_alloc_]
  have hs : w.heap.size + 1 + 1 + 1 ≤ w1.heap.size := by have := h.2.2.1.size; rw [hW] at this; exact this
  refine wd_perm hcs hn h (Ext.trans (Ext.trans (Ext.trans (Ext.alloc _ _) (Ext.alloc _ _)) (Ext.alloc _ _)) (Ext.drew _)) (Ext.refl _) rfl ⟨blk_on ((((Blk.new w 3 cs).alloc _).alloc _).drew) h.2.2.1, by omega, .inl (by omega)⟩ ⟨blk_on (((Blk.new_ (by simp)).alloc _).drew) h.2.2.1, by omega, .inl (by omega)⟩ ⟨blk_on ((Blk.new_ (by simp)).drew) h.2.2.1, by omega, .inl (by omega)⟩
end
noncomputable def wd1 : Code := dFst (dSnd (dBody Tryz.f59))
set_option maxHeartbeats 4000000 in
set_option maxRecDepth 100000 in
theorem wd1_any {w : World} {n m c : Nat} {A : Option Addr} {l : List AK.Ed} (H : Hid (EdsAt w A l)) (HL : Hid (l.length = m)) (HF : Hid (Fine n l)) (hn0 : 0 < n) (hn : n ≤ 60) (F : Func) (K : Act → World → Prop) (Post : Ending → World → Prop) {u2 u3 u4 u5 u6 u7 u8 u9 u10 u11 u12 u13 u14 u15 u16 u17 u18 u19 u20 u21 u22 u23 u24 u25 u26 u27 u28 u29 u30 u31 u32 u33 u34 u35 u36 : Value}
    (hK : ∀ (v7 v8 v9 v10 v11 v12 v13 v14 v15 v16 v17 : Value) (w0 wr : World) (kk : Wkr) (N : Nat → List Nat) (G cb B : Nat), WdSt w w0 wr n l kk N G cb B → (Exit.then K (bodyPost Tryz.prog F Post)) .normal ⟨List.toArray (.int .i64 (n : Int) :: .slice A m c :: u2 :: u3 :: u4 :: .pointer (some ⟨kk.W, 0, none⟩) :: u6 :: v7 :: v8 :: v9 :: v10 :: v11 :: v12 :: v13 :: v14 :: v15 :: v16 :: v17 :: u18 :: u19 :: u20 :: u21 :: u22 :: u23 :: u24 :: u25 :: u26 :: u27 :: u28 :: u29 :: u30 :: u31 :: u32 :: u33 :: u34 :: u35 :: u36 :: []), []⟩ wr) :
    Code.wp Tryz.prog wd1 (Exit.then K (bodyPost Tryz.prog F Post)) ⟨List.toArray (.int .i64 (n : Int) :: .slice A m c :: u2 :: u3 :: u4 :: u5 :: u6 :: u7 :: u8 :: u9 :: u10 :: u11 :: u12 :: u13 :: u14 :: u15 :: u16 :: u17 :: u18 :: u19 :: u20 :: u21 :: u22 :: u23 :: u24 :: u25 :: u26 :: u27 :: u28 :: u29 :: u30 :: u31 :: u32 :: u33 :: u34 :: u35 :: u36 :: []), []⟩ w := by
  obtain ⟨cs, hcs, hmk⟩ := run_ints n (by omega)
  have HK := Lib.hid hK
  have HCS := Lib.hid hcs
  clear hK hcs
  simp only [wd1, dBody, dFst, dSnd, Tryz.f59]
  go_region_law (first
    | (refine step_callW (by rfl) 70 #[.tmp 7, .tmp 8] #[3, 28] (by rfl) #[.int .i64 (n : Int), .slice A m c] (by kernel_rfl) (callsBeside _ _) (beside_in _ n A m c l HL.out (H.out.ext (show Ext w _ from by repeat (first | exact Ext.refl _ | refine Ext.trans ?_ (Ext.alloc _ _) | refine Ext.trans ?_ (Ext.drew _)))) HF.out hn0 hn) ?_; rintro e w1 ⟨G, cb, N, rfl, hb1, hb2, _, hb3, hb4⟩; refine ⟨_, rfl, ?_⟩; have HG := Lib.hid (show BesGot _ w1 n l G N from ⟨hb1, hb2, hb3, hb4⟩); clear hb1 hb2 hb3 hb4))
  all_goals
    refine HK.out _ _ _ _ _ _ _ _ _ _ _ w1 _ ⟨_, ?_, ?_, ?_, ?_⟩ N G cb ?_ ?_
    rotate_left 5
    first
    | refine wd_0 HCS.out hn HG.out cb _ _ _ ?_ ?_ ?_ ?_ ?_ ?_
    | refine wd_1 HCS.out hn HG.out cb _ _ _ ?_ ?_ ?_ ?_ ?_ ?_
    | refine wd_2 HCS.out hn HG.out cb _ _ _ ?_ ?_ ?_ ?_ ?_ ?_
    | refine wd_3 HCS.out hn HG.out cb _ _ _ ?_ ?_ ?_ ?_ ?_ ?_
  all_goals
    have hz := HG.out.2.2.1.size
    simp only [World.size_drew_, World.size_alloc_] at hz
    omega
end Go.Proofs.YthgniehfejklhaaGreat
namespace Go.Proofs.YthgniehfejklhaaGreat
open Go Go.RowKit
set_option linter.unusedVariables false

theorem fine_loop {n : Nat} {l : List AK.Ed} (hf : Fine n l) (u : Nat) : ¬ PD.adj l u u := by
  intro h
  have : ∀ x ∈ l, 0 ≤ x.1 ∧ x.1 < x.2 ∧ x.2 < n := fun x hx => by
    obtain ⟨i, hi⟩ := List.getElem?_of_mem hx
    exact hf.2 i x hi
  rcases h with h | h <;> (have := this _ h; simp only at this; omega)
theorem fine_in {n : Nat} {l : List AK.Ed} (hf : Fine n l) (u v : Nat) (h : PD.adj l u v) : v < n := by
  have : ∀ x ∈ l, 0 ≤ x.1 ∧ x.1 < x.2 ∧ x.2 < n := fun x hx => by
    obtain ⟨i, hi⟩ := List.getElem?_of_mem hx
    exact hf.2 i x hi
  rcases h with h | h <;> (have := this _ h; simp only at this; omega)
/-- What walked leaves. -/
def WdPost (w : World) (n : Nat) (l : List AK.Ed) (e : Ending) (w' : World) : Prop := ∃ (k : Wkr) (vE vJ : Value) (w0 : World) (N : Nat → List Nat), e = .returned (.pointer (some ⟨k.W, 0, none⟩)) ∧ DF.Bes n l N ∧ WkAt w0 n k vE vJ (DF.walked N n n) w' ∧ Ext w w0 ∧ (∀ j, k.S j → w.heap.size ≤ j)
set_option maxHeartbeats 4000000 in
set_option maxRecDepth 100000 in
theorem walked_any (w : World) (n : Nat) (A : Option Addr) (m c : Nat) (l : List AK.Ed) (hl : l.length = m) (h : EdsAt w A l) (hf : Fine n l) (hn0 : 0 < n) (hn : n ≤ 60) :
    Calls Tryz.prog 59 #[.int .i64 (n : Int), .slice A m c] w (WdPost w n l) := by
  have H := Lib.hid h
  have HL := Lib.hid hl
  have HF := Lib.hid hf
  clear h hl hf
  go_enter Tryz.func59, Tryz.ntmps59
  go_upto_region 1 with fail
  refine wd1_any H HL HF hn0 hn _ _ _ ?_
  intro v7 v8 v9 v10 v11 v12 v13 v14 v15 v16 v17 w0 w1 kk N G cb B hst
  have HST := Lib.hid hst
  have HW0 : Hid (∃ vE vJ, WkAt w0 n kk vE vJ (DF.walked N n 0) w1) := ⟨_, _, hst.at_⟩
  clear hst
  go_wp2
  go_loopw [19] (fun v wr => ∃ i : Nat, i ≤ n ∧ v = .int .i64 i ∧ Hid (∃ vE vJ, WkAt w0 n kk vE vJ (DF.walked N n i) wr)) (fun v _ => n - (intOf v).toNat)
  case atStart => exact ⟨0, by omega, rfl, HW0.out⟩
  case round =>
    obtain ⟨i, hi, rfl, hR⟩ := hrel
    clear HW0
    by_cases hin : i < n
    · have hin' : (i : Int) < (n : Int) := by omega
      have hi0 : (0 : Int) ≤ (i : Int) := by omega
      obtain ⟨vE, vJ, hW⟩ := hR.out
      have hal := DF.walked_all (l := l) HST.out.of_ (fine_loop HF.out) (fine_in HF.out) i (by omega)
      have hbd := DF.walked_bd (l := l) HST.out.of_ (fine_loop HF.out) (fine_in HF.out) i (by omega)
      obtain ⟨s, hs⟩ : ∃ s, s = DF.walked N n i := ⟨_, rfl⟩
      have hs1 : DF.walked N n (i + 1) = if PD.g s.wh i = 0 then DF.visit N i n i i s else s := by rw [hs]; rfl
      rw [← hs] at hal hbd hW
      have c1 : wr.cell? ⟨kk.W, 1, none⟩ = some (.slice (some ⟨kk.gw, 0, none⟩) n n) := hW.blk.cell 1
      obtain ⟨r1, g1⟩ := int_cell hW.wh hal.wl hin
      by_cases h0 : PD.g s.wh i = 0
      · have h0' : (PD.g s.wh i == 0) = true := by simpa using h0
        have hv : ¬ DF.V s i := by unfold DF.V; omega
        have HC := Lib.hid (walkB_any w0 n G cb l N kk HST.out.vB HST.out.bes B HST.out.inn HST.out.S HST.out.of_ (fine_loop HF.out) (fine_in HF.out) hn i n i i 0 0 s vE vJ wr (hal.pre hin hv) (PD.cnt_le _ _) hbd hW)
        have HS1 : Hid (DF.walked N n (i + 1) = DF.visit N i n i i s) := by rw [Hid, hs1, if_pos h0]
        clear hal hbd hW hs hs1 hv hR
        go_wp2_with fail
        refine HC.out.mono ?_
        rintro e w2 ⟨rfl, vE2, vJ2, hw2⟩
        have HN : Hid (∃ vE vJ, WkAt w0 n kk vE vJ (DF.walked N n (i + 1)) w2) := ⟨_, _, by rw [HS1.out]; exact hw2⟩
        clear hw2 HC HS1
        go_wp2
        go_roundw
        case rel => exact ⟨i + 1, by omega, by go_num, HN.out⟩
        case measure => simp [intOf]; omega
      · have h0' : (PD.g s.wh i == 0) = false := by simpa using h0
        have HN : Hid (∃ vE vJ, WkAt w0 n kk vE vJ (DF.walked N n (i + 1)) wr) := ⟨_, _, by rw [hs1, if_neg h0]; exact hW⟩
        clear hal hbd hW hs hs1 hR
        go_wp2
        go_roundw
        case rel => exact ⟨i + 1, by omega, by go_num, HN.out⟩
        case measure => simp [intOf]; omega
    · have e : i = n := by omega
      subst e
      have HP : Hid (WdPost w i l (.returned (.pointer (some ⟨kk.W, 0, none⟩))) wr) := by
        obtain ⟨vE, vJ, hW⟩ := hR.out
        exact ⟨kk, vE, vJ, w0, N, rfl, HST.out.of_, hW, HST.out.ext, HST.out.sS⟩
      clear hR HST
      go_wp2
      go_ret
      exact HP.out
end Go.Proofs.YthgniehfejklhaaGreat

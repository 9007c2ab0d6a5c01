/-
  The drawn regions of the walker's walk, each by itself. Conditions: the walker lies in memory as 'WkAt' says.
-/
import Derived.Test.YtakjakglkfhaaaaDoorWk
import Derived.RegionTactic
import Derived.BigRegion
import Derived.BigQuiet
import Derived.StillTailTactics
namespace Go.Proofs.YtakjakglkfhaaaaDoor
open Go Go.RowKit
set_option linter.unusedVariables false

def dFst : Code → Code | .seq a _ => a | c => c
def dSnd : Code → Code | .seq _ b => b | c => c
def dArm : Code → Code | .block _ c => c | .loop c => c | c => c
def dThen : Code → Code | .cond _ c _ => c | c => c
def dBody (f : Func) : Code := match f.body with | some c => c | none => .skip
noncomputable def wkLoop : Code := dArm (dArm (dSnd (dFst (dSnd (dSnd (dSnd (dBody Tryd.f59)))))))
noncomputable def wkRound : Code := dArm (dFst (dSnd (dSnd wkLoop)))
noncomputable def wkSeen : Code := dFst (dSnd (dSnd wkRound))
noncomputable def wkTail : Code := dSnd (dSnd (dSnd wkRound))
noncomputable def wk8 : Code := dFst (dThen (dSnd wkSeen))
noncomputable def wkMid : Code := dFst (dSnd (dSnd (dSnd wkTail)))
noncomputable def wk11 : Code := dFst (dSnd (dSnd wkTail))
noncomputable def wk12 : Code := dFst wkMid
noncomputable def wk13 : Code := dThen (dSnd wkMid)
noncomputable def wk17 : Code := dThen (dSnd (dSnd (dSnd (dSnd (dSnd (dBody Tryd.f59))))))
noncomputable def wkBlk : Code := dFst (dSnd (dSnd wkLoop))
noncomputable def wk14 : Code := dSnd (dSnd (dSnd (dSnd wkTail)))

set_option maxHeartbeats 4000000 in
set_option maxRecDepth 100000 in
theorem wk8_any {w0 w : World} {n : Nat} {k : Wkr} {vE vJ : Value} {s : DF.Wk} {a b : Nat} {jb : Bool} (han : a < n) (hbn : b < n) (hn : n ≤ 60) (H : Hid (WkAt w0 n k vE vJ s w)) (HOK : Hid (DF.Ok n s)) (HED : s.ed.length ≤ 60) (Q : Exit → Act → World → Prop) {u2 u3 u4 u5 u6 u7 u8 u9 u10 u12 u13 u14 u15 u16 u17 u18 u19 u20 u21 u22 u23 u24 u25 u26 u27 u28 u29 u30 u31 u32 u33 u34 u35 u36 u37 u38 u39 u40 u41 u42 u43 u44 u45 u46 u47 u48 u49 u50 u51 u52 u53 u54 u55 u56 u57 u58 u59 u60 u61 u62 u63 u64 u65 u66 u67 u68 u69 u70 u71 u72 u73 u74 u75 u76 u77 u78 u79 u80 u81 u82 u83 u84 u85 u86 u87 u88 u89 u90 u91 u92 u93 u94 u95 u96 u97 u98 u99 u100 u101 u102 u103 u104 u105 u106 u107 u108 u109 u110 u111 u112 u113 u114 u115 u116 u117 u118 u119 u120 u121 u122 u123 u124 u125 u126 u127 u128 u129 u130 u131 u132 u133 u134 u135 u136 u137 u138 u139 u140 u141 u142 u143 u144 u145 u146 u147 u148 u149 u150 u151 u152 u153 u154 u155 u156 u157 u158 u159 u160 u161 u162 u163 u164 u165 u166 u167 u168 u169 u170 u171 u172 u173 u174 u175 u176 u177 u178 u179 u180 u181 u182 u183 u184 u185 u186 u187 u188 u189 u190 u191 u192 : Value}
    (hK : ∀ (v69 v70 v71 v72 v73 v74 v75 v76 v77 v78 v79 v80 v81 v82 v83 v84 v85 v86 v87 v88 v89 : Value), ∀ w', WkAt w0 n k vE vJ (DF.low a (PD.g s.wh b) s) w' → Q .normal ⟨List.toArray (.pointer (some ⟨k.W, 0, none⟩) :: .int .i64 (a : Int) :: u2 :: u3 :: u4 :: u5 :: u6 :: u7 :: u8 :: u9 :: u10 :: .int .i64 (b : Int) :: u12 :: u13 :: u14 :: u15 :: u16 :: u17 :: u18 :: u19 :: u20 :: u21 :: u22 :: u23 :: u24 :: u25 :: u26 :: u27 :: u28 :: u29 :: u30 :: u31 :: u32 :: u33 :: u34 :: u35 :: u36 :: u37 :: u38 :: u39 :: u40 :: u41 :: u42 :: u43 :: u44 :: u45 :: u46 :: u47 :: u48 :: u49 :: u50 :: u51 :: u52 :: u53 :: u54 :: u55 :: u56 :: u57 :: u58 :: u59 :: u60 :: u61 :: u62 :: u63 :: u64 :: u65 :: u66 :: u67 :: u68 :: v69 :: v70 :: v71 :: v72 :: v73 :: v74 :: v75 :: v76 :: v77 :: v78 :: v79 :: v80 :: v81 :: v82 :: v83 :: v84 :: v85 :: v86 :: v87 :: v88 :: v89 :: u90 :: u91 :: u92 :: u93 :: u94 :: u95 :: u96 :: u97 :: u98 :: u99 :: u100 :: u101 :: u102 :: u103 :: u104 :: u105 :: u106 :: u107 :: u108 :: u109 :: u110 :: u111 :: u112 :: u113 :: u114 :: u115 :: u116 :: u117 :: u118 :: u119 :: u120 :: u121 :: u122 :: u123 :: u124 :: u125 :: u126 :: u127 :: u128 :: u129 :: u130 :: u131 :: u132 :: u133 :: u134 :: u135 :: u136 :: u137 :: u138 :: u139 :: u140 :: u141 :: u142 :: u143 :: u144 :: u145 :: u146 :: u147 :: u148 :: u149 :: u150 :: u151 :: u152 :: u153 :: u154 :: u155 :: u156 :: u157 :: u158 :: u159 :: u160 :: u161 :: u162 :: u163 :: u164 :: u165 :: u166 :: u167 :: u168 :: u169 :: u170 :: u171 :: u172 :: u173 :: u174 :: u175 :: u176 :: u177 :: u178 :: u179 :: u180 :: u181 :: u182 :: u183 :: u184 :: u185 :: u186 :: u187 :: u188 :: u189 :: u190 :: u191 :: u192 :: []), []⟩ w') :
    Code.wp Tryd.prog wk8 Q ⟨List.toArray (.pointer (some ⟨k.W, 0, none⟩) :: .int .i64 (a : Int) :: u2 :: u3 :: u4 :: u5 :: u6 :: u7 :: u8 :: u9 :: u10 :: .int .i64 (b : Int) :: u12 :: u13 :: u14 :: u15 :: u16 :: u17 :: u18 :: u19 :: u20 :: u21 :: u22 :: u23 :: u24 :: u25 :: u26 :: u27 :: u28 :: u29 :: u30 :: u31 :: u32 :: u33 :: u34 :: u35 :: u36 :: u37 :: u38 :: u39 :: u40 :: u41 :: u42 :: u43 :: u44 :: u45 :: u46 :: u47 :: u48 :: u49 :: u50 :: u51 :: u52 :: u53 :: u54 :: u55 :: u56 :: u57 :: u58 :: u59 :: u60 :: u61 :: u62 :: u63 :: u64 :: u65 :: u66 :: u67 :: u68 :: u69 :: u70 :: u71 :: u72 :: u73 :: u74 :: u75 :: u76 :: u77 :: u78 :: u79 :: u80 :: u81 :: u82 :: u83 :: u84 :: u85 :: u86 :: u87 :: u88 :: u89 :: u90 :: u91 :: u92 :: u93 :: u94 :: u95 :: u96 :: u97 :: u98 :: u99 :: u100 :: u101 :: u102 :: u103 :: u104 :: u105 :: u106 :: u107 :: u108 :: u109 :: u110 :: u111 :: u112 :: u113 :: u114 :: u115 :: u116 :: u117 :: u118 :: u119 :: u120 :: u121 :: u122 :: u123 :: u124 :: u125 :: u126 :: u127 :: u128 :: u129 :: u130 :: u131 :: u132 :: u133 :: u134 :: u135 :: u136 :: u137 :: u138 :: u139 :: u140 :: u141 :: u142 :: u143 :: u144 :: u145 :: u146 :: u147 :: u148 :: u149 :: u150 :: u151 :: u152 :: u153 :: u154 :: u155 :: u156 :: u157 :: u158 :: u159 :: u160 :: u161 :: u162 :: u163 :: u164 :: u165 :: u166 :: u167 :: u168 :: u169 :: u170 :: u171 :: u172 :: u173 :: u174 :: u175 :: u176 :: u177 :: u178 :: u179 :: u180 :: u181 :: u182 :: u183 :: u184 :: u185 :: u186 :: u187 :: u188 :: u189 :: u190 :: u191 :: u192 :: []), []⟩ w := by
  have HK := Lib.hid hK
  clear hK
  have hai : (a : Int) < (n : Int) := by omega
  have ha0 : (0 : Int) ≤ (a : Int) := by omega
  have hbi : (b : Int) < (n : Int) := by omega
  have hb0 : (0 : Int) ≤ (b : Int) := by omega
  have c1 : w.cell? ⟨k.W, 1, none⟩ = some (.slice (some ⟨k.gw, 0, none⟩) n n) := H.out.blk.cell 1
  have c2 : w.cell? ⟨k.W, 2, none⟩ = some (.slice (some ⟨k.gl, 0, none⟩) n n) := H.out.blk.cell 2
  obtain ⟨r1, g1⟩ := int_cell H.out.lo HOK.out.ll han
  obtain ⟨r2, g2⟩ := int_cell H.out.lo HOK.out.ll hbn
  obtain ⟨r3, g3⟩ := int_cell H.out.wh HOK.out.wl hbn
  obtain ⟨r4, g4⟩ := int_cell H.out.wh HOK.out.wl han
  simp only [wk8, wkSeen, wkRound, wkLoop, dBody, dFst, dSnd, dArm, dThen, Tryd.f59]
  have H4 : Hid (∀ x, x = min (PD.g s.lo a) (PD.g s.wh b) → WkAt w0 n k vE vJ (DF.low a (PD.g s.wh b) s) (w.setCell ⟨k.gl, a, none⟩ (.int .i64 x)).drew) := by
    rintro _ rfl
    exact (H.out.setL a _).drew
  go_still_tail 21, (by kernel_rfl)
  go_wp2
  all_goals exact HK.out _ _ _ _ _ _ _ _ _ _ _ _ _ _ _ _ _ _ _ _ _ _ (H4.out _ (by omega))

set_option maxHeartbeats 4000000 in
set_option maxRecDepth 100000 in
theorem wk11_any {w0 w : World} {n : Nat} {k : Wkr} {vE vJ : Value} {s : DF.Wk} {a b : Nat} {jb : Bool} (han : a < n) (hbn : b < n) (hn : n ≤ 60) (H : Hid (WkAt w0 n k vE vJ s w)) (HOK : Hid (DF.Ok n s)) (HED : s.ed.length ≤ 60) (Q : Exit → Act → World → Prop) {u2 u3 u4 u5 u6 u7 u8 u9 u10 u12 u13 u14 u15 u16 u17 u18 u19 u20 u21 u22 u23 u24 u25 u26 u27 u28 u29 u30 u31 u32 u33 u34 u35 u36 u37 u38 u39 u40 u41 u42 u43 u44 u45 u46 u47 u48 u49 u50 u51 u52 u53 u54 u55 u56 u57 u58 u59 u60 u61 u62 u63 u64 u65 u66 u67 u68 u69 u70 u71 u72 u73 u74 u75 u76 u77 u78 u79 u80 u81 u82 u83 u84 u85 u86 u87 u88 u89 u90 u91 u92 u93 u94 u95 u96 u97 u98 u99 u100 u101 u102 u103 u104 u105 u106 u107 u108 u109 u110 u111 u112 u113 u114 u115 u116 u117 u118 u119 u120 u121 u122 u123 u124 u125 u126 u127 u128 u129 u130 u131 u132 u133 u134 u135 u136 u137 u138 u139 u140 u141 u142 u143 u144 u145 u146 u147 u148 u149 u150 u151 u152 u153 u154 u155 u156 u157 u158 u159 u160 u161 u162 u163 u164 u165 u166 u167 u168 u169 u170 u171 u172 u173 u174 u175 u176 u177 u178 u179 u180 u181 u182 u183 u184 u185 u186 u187 u188 u189 u190 u191 u192 : Value}
    (hK : ∀ (v97 v98 v99 v100 v101 v102 v103 v104 v105 v106 v107 v108 v109 v110 v111 v112 v113 v114 v115 v116 v117 : Value), ∀ w', WkAt w0 n k vE vJ (DF.low a (PD.g s.lo b) s) w' → Q .normal ⟨List.toArray (.pointer (some ⟨k.W, 0, none⟩) :: .int .i64 (a : Int) :: u2 :: u3 :: u4 :: u5 :: u6 :: u7 :: u8 :: u9 :: u10 :: .int .i64 (b : Int) :: u12 :: u13 :: u14 :: u15 :: u16 :: u17 :: u18 :: u19 :: u20 :: u21 :: u22 :: u23 :: u24 :: u25 :: u26 :: u27 :: u28 :: u29 :: u30 :: u31 :: u32 :: u33 :: u34 :: u35 :: u36 :: u37 :: u38 :: u39 :: u40 :: u41 :: u42 :: u43 :: u44 :: u45 :: u46 :: u47 :: u48 :: u49 :: u50 :: u51 :: u52 :: u53 :: u54 :: u55 :: u56 :: u57 :: u58 :: u59 :: u60 :: u61 :: u62 :: u63 :: u64 :: u65 :: u66 :: u67 :: u68 :: u69 :: u70 :: u71 :: u72 :: u73 :: u74 :: u75 :: u76 :: u77 :: u78 :: u79 :: u80 :: u81 :: u82 :: u83 :: u84 :: u85 :: u86 :: u87 :: u88 :: u89 :: u90 :: u91 :: u92 :: u93 :: u94 :: u95 :: u96 :: v97 :: v98 :: v99 :: v100 :: v101 :: v102 :: v103 :: v104 :: v105 :: v106 :: v107 :: v108 :: v109 :: v110 :: v111 :: v112 :: v113 :: v114 :: v115 :: v116 :: v117 :: u118 :: u119 :: u120 :: u121 :: u122 :: u123 :: u124 :: u125 :: u126 :: u127 :: u128 :: u129 :: u130 :: u131 :: u132 :: u133 :: u134 :: u135 :: u136 :: u137 :: u138 :: u139 :: u140 :: u141 :: u142 :: u143 :: u144 :: u145 :: u146 :: u147 :: u148 :: u149 :: u150 :: u151 :: u152 :: u153 :: u154 :: u155 :: u156 :: u157 :: u158 :: u159 :: u160 :: u161 :: u162 :: u163 :: u164 :: u165 :: u166 :: u167 :: u168 :: u169 :: u170 :: u171 :: u172 :: u173 :: u174 :: u175 :: u176 :: u177 :: u178 :: u179 :: u180 :: u181 :: u182 :: u183 :: u184 :: u185 :: u186 :: u187 :: u188 :: u189 :: u190 :: u191 :: u192 :: []), []⟩ w') :
    Code.wp Tryd.prog wk11 Q ⟨List.toArray (.pointer (some ⟨k.W, 0, none⟩) :: .int .i64 (a : Int) :: u2 :: u3 :: u4 :: u5 :: u6 :: u7 :: u8 :: u9 :: u10 :: .int .i64 (b : Int) :: u12 :: u13 :: u14 :: u15 :: u16 :: u17 :: u18 :: u19 :: u20 :: u21 :: u22 :: u23 :: u24 :: u25 :: u26 :: u27 :: u28 :: u29 :: u30 :: u31 :: u32 :: u33 :: u34 :: u35 :: u36 :: u37 :: u38 :: u39 :: u40 :: u41 :: u42 :: u43 :: u44 :: u45 :: u46 :: u47 :: u48 :: u49 :: u50 :: u51 :: u52 :: u53 :: u54 :: u55 :: u56 :: u57 :: u58 :: u59 :: u60 :: u61 :: u62 :: u63 :: u64 :: u65 :: u66 :: u67 :: u68 :: u69 :: u70 :: u71 :: u72 :: u73 :: u74 :: u75 :: u76 :: u77 :: u78 :: u79 :: u80 :: u81 :: u82 :: u83 :: u84 :: u85 :: u86 :: u87 :: u88 :: u89 :: u90 :: u91 :: u92 :: u93 :: u94 :: u95 :: u96 :: u97 :: u98 :: u99 :: u100 :: u101 :: u102 :: u103 :: u104 :: u105 :: u106 :: u107 :: u108 :: u109 :: u110 :: u111 :: u112 :: u113 :: u114 :: u115 :: u116 :: u117 :: u118 :: u119 :: u120 :: u121 :: u122 :: u123 :: u124 :: u125 :: u126 :: u127 :: u128 :: u129 :: u130 :: u131 :: u132 :: u133 :: u134 :: u135 :: u136 :: u137 :: u138 :: u139 :: u140 :: u141 :: u142 :: u143 :: u144 :: u145 :: u146 :: u147 :: u148 :: u149 :: u150 :: u151 :: u152 :: u153 :: u154 :: u155 :: u156 :: u157 :: u158 :: u159 :: u160 :: u161 :: u162 :: u163 :: u164 :: u165 :: u166 :: u167 :: u168 :: u169 :: u170 :: u171 :: u172 :: u173 :: u174 :: u175 :: u176 :: u177 :: u178 :: u179 :: u180 :: u181 :: u182 :: u183 :: u184 :: u185 :: u186 :: u187 :: u188 :: u189 :: u190 :: u191 :: u192 :: []), []⟩ w := by
  have HK := Lib.hid hK
  clear hK
  have hai : (a : Int) < (n : Int) := by omega
  have ha0 : (0 : Int) ≤ (a : Int) := by omega
  have hbi : (b : Int) < (n : Int) := by omega
  have hb0 : (0 : Int) ≤ (b : Int) := by omega
  have c1 : w.cell? ⟨k.W, 1, none⟩ = some (.slice (some ⟨k.gw, 0, none⟩) n n) := H.out.blk.cell 1
  have c2 : w.cell? ⟨k.W, 2, none⟩ = some (.slice (some ⟨k.gl, 0, none⟩) n n) := H.out.blk.cell 2
  obtain ⟨r1, g1⟩ := int_cell H.out.lo HOK.out.ll han
  obtain ⟨r2, g2⟩ := int_cell H.out.lo HOK.out.ll hbn
  obtain ⟨r3, g3⟩ := int_cell H.out.wh HOK.out.wl hbn
  obtain ⟨r4, g4⟩ := int_cell H.out.wh HOK.out.wl han
  simp only [wk11, wkTail, wkRound, wkLoop, dBody, dFst, dSnd, dArm, Tryd.f59]
  have H4 : Hid (∀ x, x = min (PD.g s.lo a) (PD.g s.lo b) → WkAt w0 n k vE vJ (DF.low a (PD.g s.lo b) s) (w.setCell ⟨k.gl, a, none⟩ (.int .i64 x)).drew) := by
    rintro _ rfl
    exact (H.out.setL a _).drew
  go_still_tail 21, (by kernel_rfl)
  go_wp2
  all_goals exact HK.out _ _ _ _ _ _ _ _ _ _ _ _ _ _ _ _ _ _ _ _ _ _ (H4.out _ (by omega))

set_option maxHeartbeats 4000000 in
set_option maxRecDepth 100000 in
theorem wk12_any {w0 w : World} {n : Nat} {k : Wkr} {vE vJ : Value} {s : DF.Wk} {a b : Nat} {jb : Bool} (han : a < n) (hbn : b < n) (hn : n ≤ 60) (H : Hid (WkAt w0 n k vE vJ s w)) (HOK : Hid (DF.Ok n s)) (HED : s.ed.length ≤ 60) (Q : Exit → Act → World → Prop) {u2 u3 u4 u5 u6 u7 u8 u9 u10 u12 u13 u14 u15 u16 u17 u18 u19 u20 u21 u22 u23 u24 u25 u26 u27 u28 u29 u30 u31 u32 u33 u34 u35 u36 u37 u38 u39 u40 u41 u42 u43 u44 u45 u46 u47 u48 u49 u50 u51 u52 u53 u54 u55 u56 u57 u58 u59 u60 u61 u62 u63 u64 u65 u66 u67 u68 u69 u70 u71 u72 u73 u74 u75 u76 u77 u78 u79 u80 u81 u82 u83 u84 u85 u86 u87 u88 u89 u90 u91 u92 u93 u94 u95 u96 u97 u98 u99 u100 u101 u102 u103 u104 u105 u106 u107 u108 u109 u110 u111 u112 u113 u114 u115 u116 u117 u118 u119 u120 u121 u122 u123 u124 u125 u126 u127 u128 u129 u130 u131 u132 u133 u134 u135 u136 u137 u138 u139 u140 u141 u142 u143 u144 u145 u146 u147 u148 u149 u150 u151 u152 u153 u154 u155 u156 u157 u158 u159 u160 u161 u162 u163 u164 u165 u166 u167 u168 u169 u170 u171 u172 u173 u174 u175 u176 u177 u178 u179 u180 u181 u182 u183 u184 u185 u186 u187 u188 u189 u190 u191 u192 : Value}
    (hK : ∀ (v118 v119 v120 v121 v122 v123 v124 v125 v126 v127 v128 v129 v130 v131 : Value), ∀ w', WkAt w0 n k vE vJ s w' → Q .normal ⟨List.toArray (.pointer (some ⟨k.W, 0, none⟩) :: .int .i64 (a : Int) :: u2 :: u3 :: u4 :: u5 :: u6 :: u7 :: u8 :: u9 :: u10 :: .int .i64 (b : Int) :: u12 :: u13 :: u14 :: u15 :: u16 :: u17 :: u18 :: u19 :: u20 :: u21 :: u22 :: u23 :: u24 :: u25 :: u26 :: u27 :: u28 :: u29 :: u30 :: u31 :: u32 :: u33 :: u34 :: u35 :: u36 :: u37 :: u38 :: u39 :: u40 :: u41 :: u42 :: u43 :: u44 :: u45 :: u46 :: u47 :: u48 :: u49 :: u50 :: u51 :: u52 :: u53 :: u54 :: u55 :: u56 :: u57 :: u58 :: u59 :: u60 :: u61 :: u62 :: u63 :: u64 :: u65 :: u66 :: u67 :: u68 :: u69 :: u70 :: u71 :: u72 :: u73 :: u74 :: u75 :: u76 :: u77 :: u78 :: u79 :: u80 :: u81 :: u82 :: u83 :: u84 :: u85 :: u86 :: u87 :: u88 :: u89 :: u90 :: u91 :: u92 :: u93 :: u94 :: u95 :: u96 :: u97 :: u98 :: u99 :: u100 :: u101 :: u102 :: u103 :: u104 :: u105 :: u106 :: u107 :: u108 :: u109 :: u110 :: u111 :: u112 :: u113 :: u114 :: u115 :: u116 :: u117 :: v118 :: v119 :: v120 :: v121 :: v122 :: v123 :: v124 :: v125 :: v126 :: v127 :: v128 :: v129 :: v130 :: v131 :: .bool (decide (PD.g s.wh a < PD.g s.lo b)) :: u133 :: u134 :: u135 :: u136 :: u137 :: u138 :: u139 :: u140 :: u141 :: u142 :: u143 :: u144 :: u145 :: u146 :: u147 :: u148 :: u149 :: u150 :: u151 :: u152 :: u153 :: u154 :: u155 :: u156 :: u157 :: u158 :: u159 :: u160 :: u161 :: u162 :: u163 :: u164 :: u165 :: u166 :: u167 :: u168 :: u169 :: u170 :: u171 :: u172 :: u173 :: u174 :: u175 :: u176 :: u177 :: u178 :: u179 :: u180 :: u181 :: u182 :: u183 :: u184 :: u185 :: u186 :: u187 :: u188 :: u189 :: u190 :: u191 :: u192 :: []), []⟩ w') :
    Code.wp Tryd.prog wk12 Q ⟨List.toArray (.pointer (some ⟨k.W, 0, none⟩) :: .int .i64 (a : Int) :: u2 :: u3 :: u4 :: u5 :: u6 :: u7 :: u8 :: u9 :: u10 :: .int .i64 (b : Int) :: u12 :: u13 :: u14 :: u15 :: u16 :: u17 :: u18 :: u19 :: u20 :: u21 :: u22 :: u23 :: u24 :: u25 :: u26 :: u27 :: u28 :: u29 :: u30 :: u31 :: u32 :: u33 :: u34 :: u35 :: u36 :: u37 :: u38 :: u39 :: u40 :: u41 :: u42 :: u43 :: u44 :: u45 :: u46 :: u47 :: u48 :: u49 :: u50 :: u51 :: u52 :: u53 :: u54 :: u55 :: u56 :: u57 :: u58 :: u59 :: u60 :: u61 :: u62 :: u63 :: u64 :: u65 :: u66 :: u67 :: u68 :: u69 :: u70 :: u71 :: u72 :: u73 :: u74 :: u75 :: u76 :: u77 :: u78 :: u79 :: u80 :: u81 :: u82 :: u83 :: u84 :: u85 :: u86 :: u87 :: u88 :: u89 :: u90 :: u91 :: u92 :: u93 :: u94 :: u95 :: u96 :: u97 :: u98 :: u99 :: u100 :: u101 :: u102 :: u103 :: u104 :: u105 :: u106 :: u107 :: u108 :: u109 :: u110 :: u111 :: u112 :: u113 :: u114 :: u115 :: u116 :: u117 :: u118 :: u119 :: u120 :: u121 :: u122 :: u123 :: u124 :: u125 :: u126 :: u127 :: u128 :: u129 :: u130 :: u131 :: u132 :: u133 :: u134 :: u135 :: u136 :: u137 :: u138 :: u139 :: u140 :: u141 :: u142 :: u143 :: u144 :: u145 :: u146 :: u147 :: u148 :: u149 :: u150 :: u151 :: u152 :: u153 :: u154 :: u155 :: u156 :: u157 :: u158 :: u159 :: u160 :: u161 :: u162 :: u163 :: u164 :: u165 :: u166 :: u167 :: u168 :: u169 :: u170 :: u171 :: u172 :: u173 :: u174 :: u175 :: u176 :: u177 :: u178 :: u179 :: u180 :: u181 :: u182 :: u183 :: u184 :: u185 :: u186 :: u187 :: u188 :: u189 :: u190 :: u191 :: u192 :: []), []⟩ w := by
  have HK := Lib.hid hK
  clear hK
  have hai : (a : Int) < (n : Int) := by omega
  have ha0 : (0 : Int) ≤ (a : Int) := by omega
  have hbi : (b : Int) < (n : Int) := by omega
  have hb0 : (0 : Int) ≤ (b : Int) := by omega
  have c1 : w.cell? ⟨k.W, 1, none⟩ = some (.slice (some ⟨k.gw, 0, none⟩) n n) := H.out.blk.cell 1
  have c2 : w.cell? ⟨k.W, 2, none⟩ = some (.slice (some ⟨k.gl, 0, none⟩) n n) := H.out.blk.cell 2
  obtain ⟨r1, g1⟩ := int_cell H.out.lo HOK.out.ll han
  obtain ⟨r2, g2⟩ := int_cell H.out.lo HOK.out.ll hbn
  obtain ⟨r3, g3⟩ := int_cell H.out.wh HOK.out.wl hbn
  obtain ⟨r4, g4⟩ := int_cell H.out.wh HOK.out.wl han
  simp only [wk12, wkMid, wkTail, wkRound, wkLoop, dBody, dFst, dSnd, dArm, Tryd.f59]
  go_quiet (fail)
  exact HK.out _ _ _ _ _ _ _ _ _ _ _ _ _ _ _ (H.out.drewN nq)

set_option maxHeartbeats 4000000 in
set_option maxRecDepth 100000 in
theorem wk14_any {w0 w : World} {n : Nat} {k : Wkr} {vE vJ : Value} {s : DF.Wk} {a b : Nat} {jb : Bool} (han : a < n) (hbn : b < n) (hn : n ≤ 60) (H : Hid (WkAt w0 n k vE vJ s w)) (HOK : Hid (DF.Ok n s)) (HED : s.ed.length ≤ 60) (Q : Exit → Act → World → Prop) {u2 u3 u4 u5 u6 u7 u8 u10 u12 u13 u14 u15 u16 u17 u18 u19 u20 u21 u22 u23 u24 u25 u26 u27 u28 u29 u30 u31 u32 u33 u34 u35 u36 u37 u38 u39 u40 u41 u42 u43 u44 u45 u46 u47 u48 u49 u50 u51 u52 u53 u54 u55 u56 u57 u58 u59 u60 u61 u62 u63 u64 u65 u66 u67 u68 u69 u70 u71 u72 u73 u74 u75 u76 u77 u78 u79 u80 u81 u82 u83 u84 u85 u86 u87 u88 u89 u90 u91 u92 u93 u94 u95 u96 u97 u98 u99 u100 u101 u102 u103 u104 u105 u106 u107 u108 u109 u110 u111 u112 u113 u114 u115 u116 u117 u118 u119 u120 u121 u122 u123 u124 u125 u126 u127 u128 u129 u130 u131 u132 u133 u134 u135 u136 u137 u138 u139 u140 u141 u142 u143 u144 u145 u146 u147 u148 u149 u150 u151 u152 u153 u154 u155 u156 u157 u158 u159 u160 u161 u162 u163 u164 u165 u166 u167 u168 u169 u170 u171 u172 u173 u174 u175 u176 u177 u178 u179 u180 u181 u182 u183 u184 u185 u186 u187 u188 u189 u190 u191 u192 : Value}
    (hK : ∀ (v149 v150 v151 v152 v153 v154 v155 v156 v157 v158 v159 v160 v161 v162 v163 v164 v165 v166 : Value), ∀ w', WkAt w0 n k vE vJ s w' → Q .normal ⟨List.toArray (.pointer (some ⟨k.W, 0, none⟩) :: .int .i64 (a : Int) :: u2 :: u3 :: u4 :: u5 :: u6 :: u7 :: u8 :: .bool (jb || decide (PD.g s.wh a ≤ PD.g s.lo b)) :: u10 :: .int .i64 (b : Int) :: u12 :: u13 :: u14 :: u15 :: u16 :: u17 :: u18 :: u19 :: u20 :: u21 :: u22 :: u23 :: u24 :: u25 :: u26 :: u27 :: u28 :: u29 :: u30 :: u31 :: u32 :: u33 :: u34 :: u35 :: u36 :: u37 :: u38 :: u39 :: u40 :: u41 :: u42 :: u43 :: u44 :: u45 :: u46 :: u47 :: u48 :: u49 :: u50 :: u51 :: u52 :: u53 :: u54 :: u55 :: u56 :: u57 :: u58 :: u59 :: u60 :: u61 :: u62 :: u63 :: u64 :: u65 :: u66 :: u67 :: u68 :: u69 :: u70 :: u71 :: u72 :: u73 :: u74 :: u75 :: u76 :: u77 :: u78 :: u79 :: u80 :: u81 :: u82 :: u83 :: u84 :: u85 :: u86 :: u87 :: u88 :: u89 :: u90 :: u91 :: u92 :: u93 :: u94 :: u95 :: u96 :: u97 :: u98 :: u99 :: u100 :: u101 :: u102 :: u103 :: u104 :: u105 :: u106 :: u107 :: u108 :: u109 :: u110 :: u111 :: u112 :: u113 :: u114 :: u115 :: u116 :: u117 :: u118 :: u119 :: u120 :: u121 :: u122 :: u123 :: u124 :: u125 :: u126 :: u127 :: u128 :: u129 :: u130 :: u131 :: u132 :: u133 :: u134 :: u135 :: u136 :: u137 :: u138 :: u139 :: u140 :: u141 :: u142 :: u143 :: u144 :: u145 :: u146 :: u147 :: u148 :: v149 :: v150 :: v151 :: v152 :: v153 :: v154 :: v155 :: v156 :: v157 :: v158 :: v159 :: v160 :: v161 :: v162 :: v163 :: v164 :: v165 :: v166 :: u167 :: u168 :: u169 :: u170 :: u171 :: u172 :: u173 :: u174 :: u175 :: u176 :: u177 :: u178 :: u179 :: u180 :: u181 :: u182 :: u183 :: u184 :: u185 :: u186 :: u187 :: u188 :: u189 :: u190 :: u191 :: u192 :: []), []⟩ w') :
    Code.wp Tryd.prog wk14 Q ⟨List.toArray (.pointer (some ⟨k.W, 0, none⟩) :: .int .i64 (a : Int) :: u2 :: u3 :: u4 :: u5 :: u6 :: u7 :: u8 :: .bool jb :: u10 :: .int .i64 (b : Int) :: u12 :: u13 :: u14 :: u15 :: u16 :: u17 :: u18 :: u19 :: u20 :: u21 :: u22 :: u23 :: u24 :: u25 :: u26 :: u27 :: u28 :: u29 :: u30 :: u31 :: u32 :: u33 :: u34 :: u35 :: u36 :: u37 :: u38 :: u39 :: u40 :: u41 :: u42 :: u43 :: u44 :: u45 :: u46 :: u47 :: u48 :: u49 :: u50 :: u51 :: u52 :: u53 :: u54 :: u55 :: u56 :: u57 :: u58 :: u59 :: u60 :: u61 :: u62 :: u63 :: u64 :: u65 :: u66 :: u67 :: u68 :: u69 :: u70 :: u71 :: u72 :: u73 :: u74 :: u75 :: u76 :: u77 :: u78 :: u79 :: u80 :: u81 :: u82 :: u83 :: u84 :: u85 :: u86 :: u87 :: u88 :: u89 :: u90 :: u91 :: u92 :: u93 :: u94 :: u95 :: u96 :: u97 :: u98 :: u99 :: u100 :: u101 :: u102 :: u103 :: u104 :: u105 :: u106 :: u107 :: u108 :: u109 :: u110 :: u111 :: u112 :: u113 :: u114 :: u115 :: u116 :: u117 :: u118 :: u119 :: u120 :: u121 :: u122 :: u123 :: u124 :: u125 :: u126 :: u127 :: u128 :: u129 :: u130 :: u131 :: u132 :: u133 :: u134 :: u135 :: u136 :: u137 :: u138 :: u139 :: u140 :: u141 :: u142 :: u143 :: u144 :: u145 :: u146 :: u147 :: u148 :: u149 :: u150 :: u151 :: u152 :: u153 :: u154 :: u155 :: u156 :: u157 :: u158 :: u159 :: u160 :: u161 :: u162 :: u163 :: u164 :: u165 :: u166 :: u167 :: u168 :: u169 :: u170 :: u171 :: u172 :: u173 :: u174 :: u175 :: u176 :: u177 :: u178 :: u179 :: u180 :: u181 :: u182 :: u183 :: u184 :: u185 :: u186 :: u187 :: u188 :: u189 :: u190 :: u191 :: u192 :: []), []⟩ w := by
  have HK := Lib.hid hK
  clear hK
  have hai : (a : Int) < (n : Int) := by omega
  have ha0 : (0 : Int) ≤ (a : Int) := by omega
  have hbi : (b : Int) < (n : Int) := by omega
  have hb0 : (0 : Int) ≤ (b : Int) := by omega
  have c1 : w.cell? ⟨k.W, 1, none⟩ = some (.slice (some ⟨k.gw, 0, none⟩) n n) := H.out.blk.cell 1
  have c2 : w.cell? ⟨k.W, 2, none⟩ = some (.slice (some ⟨k.gl, 0, none⟩) n n) := H.out.blk.cell 2
  obtain ⟨r1, g1⟩ := int_cell H.out.lo HOK.out.ll han
  obtain ⟨r2, g2⟩ := int_cell H.out.lo HOK.out.ll hbn
  obtain ⟨r3, g3⟩ := int_cell H.out.wh HOK.out.wl hbn
  obtain ⟨r4, g4⟩ := int_cell H.out.wh HOK.out.wl han
  simp only [wk14, wkTail, wkRound, wkLoop, dBody, dFst, dSnd, dArm, Tryd.f59]
  cases jb
  · go_quiet (fail)
    exact HK.out _ _ _ _ _ _ _ _ _ _ _ _ _ _ _ _ _ _ _ (H.out.drewN nq)
  · go_quiet (fail)
    exact HK.out _ _ _ _ _ _ _ _ _ _ _ _ _ _ _ _ _ _ _ (H.out.drewN nq)

set_option maxHeartbeats 4000000 in
set_option maxRecDepth 100000 in
theorem wk13_any {w0 w : World} {n : Nat} {k : Wkr} {vE vJ : Value} {s : DF.Wk} {a b : Nat} {jb : Bool} (han : a < n) (hbn : b < n) (hn : n ≤ 60) (H : Hid (WkAt w0 n k vE vJ s w)) (HOK : Hid (DF.Ok n s)) (HED : s.ed.length ≤ 60) (hne : a ≠ b) (Q : Exit → Act → World → Prop) {u2 u3 u4 u5 u6 u7 u8 u9 u10 u12 u13 u14 u15 u16 u17 u18 u19 u20 u21 u22 u23 u24 u25 u26 u27 u28 u29 u30 u31 u32 u33 u34 u35 u36 u37 u38 u39 u40 u41 u42 u43 u44 u45 u46 u47 u48 u49 u50 u51 u52 u53 u54 u55 u56 u57 u58 u59 u60 u61 u62 u63 u64 u65 u66 u67 u68 u69 u70 u71 u72 u73 u74 u75 u76 u77 u78 u79 u80 u81 u82 u83 u84 u85 u86 u87 u88 u89 u90 u91 u92 u93 u94 u95 u96 u97 u98 u99 u100 u101 u102 u103 u104 u105 u106 u107 u108 u109 u110 u111 u112 u113 u114 u115 u116 u117 u118 u119 u120 u121 u122 u123 u124 u125 u126 u127 u128 u129 u130 u131 u132 u133 u134 u135 u136 u137 u138 u139 u140 u141 u142 u143 u144 u145 u146 u147 u148 u149 u150 u151 u152 u153 u154 u155 u156 u157 u158 u159 u160 u161 u162 u163 u164 u165 u166 u167 u168 u169 u170 u171 u172 u173 u174 u175 u176 u177 u178 u179 u180 u181 u182 u183 u184 u185 u186 u187 u188 u189 u190 u191 u192 : Value}
    (hK : ∀ (v133 v134 v135 v136 v137 v138 v139 v140 v141 v142 v143 v144 v145 v146 v147 v148 : Value), ∀ (vE' : Value) (w' : World), WkAt w0 n k vE' vJ { s with ed := s.ed ++ [DF.ek a b] } w' → Q .normal ⟨List.toArray (.pointer (some ⟨k.W, 0, none⟩) :: .int .i64 (a : Int) :: u2 :: u3 :: u4 :: u5 :: u6 :: u7 :: u8 :: u9 :: u10 :: .int .i64 (b : Int) :: u12 :: u13 :: u14 :: u15 :: u16 :: u17 :: u18 :: u19 :: u20 :: u21 :: u22 :: u23 :: u24 :: u25 :: u26 :: u27 :: u28 :: u29 :: u30 :: u31 :: u32 :: u33 :: u34 :: u35 :: u36 :: u37 :: u38 :: u39 :: u40 :: u41 :: u42 :: u43 :: u44 :: u45 :: u46 :: u47 :: u48 :: u49 :: u50 :: u51 :: u52 :: u53 :: u54 :: u55 :: u56 :: u57 :: u58 :: u59 :: u60 :: u61 :: u62 :: u63 :: u64 :: u65 :: u66 :: u67 :: u68 :: u69 :: u70 :: u71 :: u72 :: u73 :: u74 :: u75 :: u76 :: u77 :: u78 :: u79 :: u80 :: u81 :: u82 :: u83 :: u84 :: u85 :: u86 :: u87 :: u88 :: u89 :: u90 :: u91 :: u92 :: u93 :: u94 :: u95 :: u96 :: u97 :: u98 :: u99 :: u100 :: u101 :: u102 :: u103 :: u104 :: u105 :: u106 :: u107 :: u108 :: u109 :: u110 :: u111 :: u112 :: u113 :: u114 :: u115 :: u116 :: u117 :: u118 :: u119 :: u120 :: u121 :: u122 :: u123 :: u124 :: u125 :: u126 :: u127 :: u128 :: u129 :: u130 :: u131 :: u132 :: v133 :: v134 :: v135 :: v136 :: v137 :: v138 :: v139 :: v140 :: v141 :: v142 :: v143 :: v144 :: v145 :: v146 :: v147 :: v148 :: u149 :: u150 :: u151 :: u152 :: u153 :: u154 :: u155 :: u156 :: u157 :: u158 :: u159 :: u160 :: u161 :: u162 :: u163 :: u164 :: u165 :: u166 :: u167 :: u168 :: u169 :: u170 :: u171 :: u172 :: u173 :: u174 :: u175 :: u176 :: u177 :: u178 :: u179 :: u180 :: u181 :: u182 :: u183 :: u184 :: u185 :: u186 :: u187 :: u188 :: u189 :: u190 :: u191 :: u192 :: []), []⟩ w') :
    Code.wp Tryd.prog wk13 Q ⟨List.toArray (.pointer (some ⟨k.W, 0, none⟩) :: .int .i64 (a : Int) :: u2 :: u3 :: u4 :: u5 :: u6 :: u7 :: u8 :: u9 :: u10 :: .int .i64 (b : Int) :: u12 :: u13 :: u14 :: u15 :: u16 :: u17 :: u18 :: u19 :: u20 :: u21 :: u22 :: u23 :: u24 :: u25 :: u26 :: u27 :: u28 :: u29 :: u30 :: u31 :: u32 :: u33 :: u34 :: u35 :: u36 :: u37 :: u38 :: u39 :: u40 :: u41 :: u42 :: u43 :: u44 :: u45 :: u46 :: u47 :: u48 :: u49 :: u50 :: u51 :: u52 :: u53 :: u54 :: u55 :: u56 :: u57 :: u58 :: u59 :: u60 :: u61 :: u62 :: u63 :: u64 :: u65 :: u66 :: u67 :: u68 :: u69 :: u70 :: u71 :: u72 :: u73 :: u74 :: u75 :: u76 :: u77 :: u78 :: u79 :: u80 :: u81 :: u82 :: u83 :: u84 :: u85 :: u86 :: u87 :: u88 :: u89 :: u90 :: u91 :: u92 :: u93 :: u94 :: u95 :: u96 :: u97 :: u98 :: u99 :: u100 :: u101 :: u102 :: u103 :: u104 :: u105 :: u106 :: u107 :: u108 :: u109 :: u110 :: u111 :: u112 :: u113 :: u114 :: u115 :: u116 :: u117 :: u118 :: u119 :: u120 :: u121 :: u122 :: u123 :: u124 :: u125 :: u126 :: u127 :: u128 :: u129 :: u130 :: u131 :: u132 :: u133 :: u134 :: u135 :: u136 :: u137 :: u138 :: u139 :: u140 :: u141 :: u142 :: u143 :: u144 :: u145 :: u146 :: u147 :: u148 :: u149 :: u150 :: u151 :: u152 :: u153 :: u154 :: u155 :: u156 :: u157 :: u158 :: u159 :: u160 :: u161 :: u162 :: u163 :: u164 :: u165 :: u166 :: u167 :: u168 :: u169 :: u170 :: u171 :: u172 :: u173 :: u174 :: u175 :: u176 :: u177 :: u178 :: u179 :: u180 :: u181 :: u182 :: u183 :: u184 :: u185 :: u186 :: u187 :: u188 :: u189 :: u190 :: u191 :: u192 :: []), []⟩ w := by
  have HK := Lib.hid hK
  clear hK
  have hai : (a : Int) < (n : Int) := by omega
  have ha0 : (0 : Int) ≤ (a : Int) := by omega
  have hbi : (b : Int) < (n : Int) := by omega
  have hb0 : (0 : Int) ≤ (b : Int) := by omega
  have c1 : w.cell? ⟨k.W, 1, none⟩ = some (.slice (some ⟨k.gw, 0, none⟩) n n) := H.out.blk.cell 1
  have c2 : w.cell? ⟨k.W, 2, none⟩ = some (.slice (some ⟨k.gl, 0, none⟩) n n) := H.out.blk.cell 2
  obtain ⟨r1, g1⟩ := int_cell H.out.lo HOK.out.ll han
  obtain ⟨r2, g2⟩ := int_cell H.out.lo HOK.out.ll hbn
  obtain ⟨r3, g3⟩ := int_cell H.out.wh HOK.out.wl hbn
  obtain ⟨r4, g4⟩ := int_cell H.out.wh HOK.out.wl han
  simp only [wk13, wkMid, wkTail, wkRound, wkLoop, dBody, dFst, dSnd, dArm, dThen, Tryd.f59]
  have c5 : w.cell? ⟨k.W, 5, none⟩ = some vE := H.out.blk.cell 5
  have HN : Hid (∀ o, WkAt w0 n k vE vJ s (w.alloc o)) := fun o => H.out.moved (Ext.alloc _ _)
  have hcase : ∃ x y : Int, DF.ek a b = (x, y) ∧ (if (b : Int) < (a : Int) then (b : Int) else (a : Int)) = x ∧ (if (a : Int) < (b : Int) then (b : Int) else (a : Int)) = y ∧ ((x = a ∧ y = b ∧ (a : Int) ≤ b) ∨ (x = b ∧ y = a ∧ (b : Int) < a)) := by
    by_cases h : (b : Int) < a
    · refine ⟨b, a, ?_, if_pos h, if_neg (by omega), .inr ⟨rfl, rfl, h⟩⟩
      unfold DF.ek; rw [Nat.min_eq_right (by omega), Nat.max_eq_left (by omega)]
    · refine ⟨a, b, ?_, if_neg h, ?_, .inl ⟨rfl, rfl, by omega⟩⟩
      · unfold DF.ek; rw [Nat.min_eq_left (by omega), Nat.max_eq_right (by omega)]
      · split <;> omega
  obtain ⟨x, y, hxy, _, _, hc⟩ := hcase
  rw [hxy] at HK
  rcases hc with ⟨rfl, rfl, hab⟩ | ⟨rfl, rfl, hab⟩
  all_goals
    by_cases hab2 : (a : Int) < (b : Int)
    all_goals
      first
      | (exfalso; omega)
      | skip
  all_goals
    go_wp2_with (at_builtin; refine wpList_pushS _ rfl (.tmp 137) (.tmp 145) 22 rfl 63 _ 2 16 Tryd.underlying22 infoEdge rfl (by decide) _ _ _ rfl (HN.out _).ed ⟨by omega, by omega⟩ _ w.heap.size rfl rfl (news_cells rfl _ _) (by simp [Value.oneCell']) ?_; intro g5 cc5 w5 ho5 hc5 hat5 _; obtain ⟨hB5, hW5⟩ := (HN.out _).pushE (x := (_, _)) ho5 hc5 hat5; have HW5 := Lib.hid hW5; have q5 : w5.cell? ⟨k.W, 5, none⟩ = some vE := hB5.cell 5; have f5 := hB5.frozen 5; clear ho5 hc5 hat5 hB5 hW5)
    refine HK.out _ _ _ _ _ _ _ _ _ _ _ _ _ _ _ _ (.slice (some ⟨g5, 0, none⟩) (s.ed.length + 1) cc5) _ ?_
    have h := HW5.out
    first | exact h | (rw [Int.min_eq_left (by omega), Int.max_eq_right (by omega)] at h; exact h) | (rw [Int.min_eq_right (by omega), Int.max_eq_left (by omega)] at h; exact h)

set_option maxHeartbeats 4000000 in
set_option maxRecDepth 100000 in
theorem wk17_any {w0 w : World} {n : Nat} {k : Wkr} {vE vJ : Value} {s : DF.Wk} {a b : Nat} {jb : Bool} (han : a < n) (hbn : b < n) (hn : n ≤ 60) (H : Hid (WkAt w0 n k vE vJ s w)) (HOK : Hid (DF.Ok n s)) (HED : s.ed.length ≤ 60) (HJO : s.jo.length ≤ 60) (Q : Exit → Act → World → Prop) {u2 u3 u4 u5 u6 u7 u8 u9 u10 u11 u12 u13 u14 u15 u16 u17 u18 u19 u20 u21 u22 u23 u24 u25 u26 u27 u28 u29 u30 u31 u32 u33 u34 u35 u36 u37 u38 u39 u40 u41 u42 u43 u44 u45 u46 u47 u48 u49 u50 u51 u52 u53 u54 u55 u56 u57 u58 u59 u60 u61 u62 u63 u64 u65 u66 u67 u68 u69 u70 u71 u72 u73 u74 u75 u76 u77 u78 u79 u80 u81 u82 u83 u84 u85 u86 u87 u88 u89 u90 u91 u92 u93 u94 u95 u96 u97 u98 u99 u100 u101 u102 u103 u104 u105 u106 u107 u108 u109 u110 u111 u112 u113 u114 u115 u116 u117 u118 u119 u120 u121 u122 u123 u124 u125 u126 u127 u128 u129 u130 u131 u132 u133 u134 u135 u136 u137 u138 u139 u140 u141 u142 u143 u144 u145 u146 u147 u148 u149 u150 u151 u152 u153 u154 u155 u156 u157 u158 u159 u160 u161 u162 u163 u164 u165 u166 u167 u168 u169 u170 u171 u172 u173 u174 u175 u176 u177 u178 u179 u180 u181 u182 u183 u184 u185 u186 u187 u188 u189 u190 u191 u192 : Value}
    (hK : ∀ (v183 v184 v185 v186 v187 v188 v189 v190 v191 v192 : Value), ∀ (vJ' : Value) (w' : World), WkAt w0 n k vE vJ' { s with jo := s.jo ++ [a] } w' → Q .normal ⟨List.toArray (.pointer (some ⟨k.W, 0, none⟩) :: .int .i64 (a : Int) :: u2 :: u3 :: u4 :: u5 :: u6 :: u7 :: u8 :: u9 :: u10 :: u11 :: u12 :: u13 :: u14 :: u15 :: u16 :: u17 :: u18 :: u19 :: u20 :: u21 :: u22 :: u23 :: u24 :: u25 :: u26 :: u27 :: u28 :: u29 :: u30 :: u31 :: u32 :: u33 :: u34 :: u35 :: u36 :: u37 :: u38 :: u39 :: u40 :: u41 :: u42 :: u43 :: u44 :: u45 :: u46 :: u47 :: u48 :: u49 :: u50 :: u51 :: u52 :: u53 :: u54 :: u55 :: u56 :: u57 :: u58 :: u59 :: u60 :: u61 :: u62 :: u63 :: u64 :: u65 :: u66 :: u67 :: u68 :: u69 :: u70 :: u71 :: u72 :: u73 :: u74 :: u75 :: u76 :: u77 :: u78 :: u79 :: u80 :: u81 :: u82 :: u83 :: u84 :: u85 :: u86 :: u87 :: u88 :: u89 :: u90 :: u91 :: u92 :: u93 :: u94 :: u95 :: u96 :: u97 :: u98 :: u99 :: u100 :: u101 :: u102 :: u103 :: u104 :: u105 :: u106 :: u107 :: u108 :: u109 :: u110 :: u111 :: u112 :: u113 :: u114 :: u115 :: u116 :: u117 :: u118 :: u119 :: u120 :: u121 :: u122 :: u123 :: u124 :: u125 :: u126 :: u127 :: u128 :: u129 :: u130 :: u131 :: u132 :: u133 :: u134 :: u135 :: u136 :: u137 :: u138 :: u139 :: u140 :: u141 :: u142 :: u143 :: u144 :: u145 :: u146 :: u147 :: u148 :: u149 :: u150 :: u151 :: u152 :: u153 :: u154 :: u155 :: u156 :: u157 :: u158 :: u159 :: u160 :: u161 :: u162 :: u163 :: u164 :: u165 :: u166 :: u167 :: u168 :: u169 :: u170 :: u171 :: u172 :: u173 :: u174 :: u175 :: u176 :: u177 :: u178 :: u179 :: u180 :: u181 :: u182 :: v183 :: v184 :: v185 :: v186 :: v187 :: v188 :: v189 :: v190 :: v191 :: v192 :: []), []⟩ w') :
    Code.wp Tryd.prog wk17 Q ⟨List.toArray (.pointer (some ⟨k.W, 0, none⟩) :: .int .i64 (a : Int) :: u2 :: u3 :: u4 :: u5 :: u6 :: u7 :: u8 :: u9 :: u10 :: u11 :: u12 :: u13 :: u14 :: u15 :: u16 :: u17 :: u18 :: u19 :: u20 :: u21 :: u22 :: u23 :: u24 :: u25 :: u26 :: u27 :: u28 :: u29 :: u30 :: u31 :: u32 :: u33 :: u34 :: u35 :: u36 :: u37 :: u38 :: u39 :: u40 :: u41 :: u42 :: u43 :: u44 :: u45 :: u46 :: u47 :: u48 :: u49 :: u50 :: u51 :: u52 :: u53 :: u54 :: u55 :: u56 :: u57 :: u58 :: u59 :: u60 :: u61 :: u62 :: u63 :: u64 :: u65 :: u66 :: u67 :: u68 :: u69 :: u70 :: u71 :: u72 :: u73 :: u74 :: u75 :: u76 :: u77 :: u78 :: u79 :: u80 :: u81 :: u82 :: u83 :: u84 :: u85 :: u86 :: u87 :: u88 :: u89 :: u90 :: u91 :: u92 :: u93 :: u94 :: u95 :: u96 :: u97 :: u98 :: u99 :: u100 :: u101 :: u102 :: u103 :: u104 :: u105 :: u106 :: u107 :: u108 :: u109 :: u110 :: u111 :: u112 :: u113 :: u114 :: u115 :: u116 :: u117 :: u118 :: u119 :: u120 :: u121 :: u122 :: u123 :: u124 :: u125 :: u126 :: u127 :: u128 :: u129 :: u130 :: u131 :: u132 :: u133 :: u134 :: u135 :: u136 :: u137 :: u138 :: u139 :: u140 :: u141 :: u142 :: u143 :: u144 :: u145 :: u146 :: u147 :: u148 :: u149 :: u150 :: u151 :: u152 :: u153 :: u154 :: u155 :: u156 :: u157 :: u158 :: u159 :: u160 :: u161 :: u162 :: u163 :: u164 :: u165 :: u166 :: u167 :: u168 :: u169 :: u170 :: u171 :: u172 :: u173 :: u174 :: u175 :: u176 :: u177 :: u178 :: u179 :: u180 :: u181 :: u182 :: u183 :: u184 :: u185 :: u186 :: u187 :: u188 :: u189 :: u190 :: u191 :: u192 :: []), []⟩ w := by
  have HK := Lib.hid hK
  clear hK
  have hai : (a : Int) < (n : Int) := by omega
  have ha0 : (0 : Int) ≤ (a : Int) := by omega
  have hbi : (b : Int) < (n : Int) := by omega
  have hb0 : (0 : Int) ≤ (b : Int) := by omega
  have c1 : w.cell? ⟨k.W, 1, none⟩ = some (.slice (some ⟨k.gw, 0, none⟩) n n) := H.out.blk.cell 1
  have c2 : w.cell? ⟨k.W, 2, none⟩ = some (.slice (some ⟨k.gl, 0, none⟩) n n) := H.out.blk.cell 2
  obtain ⟨r1, g1⟩ := int_cell H.out.lo HOK.out.ll han
  obtain ⟨r2, g2⟩ := int_cell H.out.lo HOK.out.ll hbn
  obtain ⟨r3, g3⟩ := int_cell H.out.wh HOK.out.wl hbn
  obtain ⟨r4, g4⟩ := int_cell H.out.wh HOK.out.wl han
  simp only [wk17, dBody, dSnd, dThen, Tryd.f59]
  have c6 : w.cell? ⟨k.W, 6, none⟩ = some vJ := H.out.blk.cell 6
  have HN : Hid (∀ o, WkAt w0 n k vE vJ s (w.alloc o)) := fun o => H.out.moved (Ext.alloc _ _)
  go_wp2_with (at_builtin; refine wpList_push _ rfl (.tmp 187) (.tmp 189) 53 rfl 3 (.int .i64 0) 8 Tryd.underlying53 infoI rfl _ _ _ rfl (HN.out _).jo ⟨by omega, by omega⟩ (.int .i64 (a : Int)) w.heap.size rfl (cell_new1 rfl _ _) rfl ?_; intro g5 cc5 w5 ho5 hc5 hat5 _; obtain ⟨hB5, hW5⟩ := (HN.out _).pushJ ho5 hc5 hat5; have HW5 := Lib.hid hW5; have q5 : w5.cell? ⟨k.W, 6, none⟩ = some vJ := hB5.cell 6; have f5 := hB5.frozen 6; clear ho5 hc5 hat5 hB5 hW5)
  exact HK.out _ _ _ _ _ _ _ _ _ _ _ _ HW5.out

end Go.Proofs.YtakjakglkfhaaaaDoor

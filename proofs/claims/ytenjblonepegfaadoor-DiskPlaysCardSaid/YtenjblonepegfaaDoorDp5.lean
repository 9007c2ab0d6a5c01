/-
  DiskPlays' reading loop. Conditions: the disks lie as 'DpR' says.
-/
import Derived.Test.YtenjblonepegfaaDoorDp1
import Derived.Deep.CutBlock
import Derived.Deep.DeepCutAuto
import Derived.StillTailTactics
namespace Go.Proofs.YtenjblonepegfaaDoor
open Go Go.RowKit
set_option linter.unusedVariables false
set_option maxRecDepth 100000 in
set_option maxHeartbeats 4000000 in
theorem dpin_any (u1 u2 u3 u4 u6 u8 u9 u10 u11 u12 u14 u15 u16 u17 u18 u19 u20 u21 u22 u23 u24 u25 u26 u27 u28 u29 u30 u31 u32 u33 u34 u35 u36 u37 u38 u39 u40 u41 u42 u43 u44 u45 u46 u47 u48 u49 u50 u51 u52 u53 u54 u55 u56 u57 u58 u59 u60 u61 u62 u63 u64 u65 u66 u67 u68 u69 u70 u71 u72 u73 u74 u75 u76 u77 u78 u79 u80 u81 u82 u83 u84 u85 u86 u87 u88 u89 u90 u91 u92 u93 u94 u95 u96 u97 u98 u99 u100 u101 u102 u103 u104 u105 u106 u107 u108 u109 u110 u111 u112 u113 u114 u115 u116 u117 u118 u119 u120 u121 u122 u123 u124 u125 u126 u127 u128 u129 u130 u131 u132 u133 u134 u135 u136 u137 u138 u139 u140 u141 u142 u143 u144 u145 u146 u147 u148 u149 u150 u151 u152 u153 u154 u155 u156 u157 u158 u159 u160 u161 : Value) (W w1 : World) (n : Nat) (d : DK.D) (gu gr : Nat) (h : DpR W n d d gu gr none w1) (hn : n ≤ 80) (K : Act → World → Prop) (Q : Exit → Act → World → Prop)
    (hK : ∀ (v4 v13 v14 v15 v115 v116 v117 v118 v119 v120 v121 v122 v123 v124 v125 v126 v127 v128 v129 v130 v131 v132 v133 v134 v135 v136 v137 v138 v139 v140 : Value) (w' : World), DpR W n d d gu gr none w' → K ⟨List.toArray (.int .i64 (n : Nat) :: u1 :: u2 :: u3 :: v4 :: .pointer (some ⟨gu, 0, none⟩) :: u6 :: .pointer (some ⟨gr, 0, none⟩) :: u8 :: u9 :: u10 :: u11 :: u12 :: v13 :: v14 :: v15 :: u16 :: u17 :: u18 :: u19 :: u20 :: u21 :: u22 :: u23 :: u24 :: u25 :: u26 :: u27 :: u28 :: u29 :: u30 :: u31 :: u32 :: u33 :: u34 :: u35 :: u36 :: u37 :: u38 :: u39 :: u40 :: u41 :: u42 :: u43 :: u44 :: u45 :: u46 :: u47 :: u48 :: u49 :: u50 :: u51 :: u52 :: u53 :: u54 :: u55 :: u56 :: u57 :: u58 :: u59 :: u60 :: u61 :: u62 :: u63 :: u64 :: u65 :: u66 :: u67 :: u68 :: u69 :: u70 :: u71 :: u72 :: u73 :: u74 :: u75 :: u76 :: u77 :: u78 :: u79 :: u80 :: u81 :: u82 :: u83 :: u84 :: u85 :: u86 :: u87 :: u88 :: u89 :: u90 :: u91 :: u92 :: u93 :: u94 :: u95 :: u96 :: u97 :: u98 :: u99 :: u100 :: u101 :: u102 :: u103 :: u104 :: u105 :: u106 :: u107 :: u108 :: u109 :: u110 :: u111 :: u112 :: u113 :: u114 :: v115 :: v116 :: v117 :: v118 :: v119 :: v120 :: v121 :: v122 :: v123 :: v124 :: v125 :: v126 :: v127 :: v128 :: v129 :: v130 :: v131 :: v132 :: v133 :: v134 :: v135 :: v136 :: v137 :: v138 :: v139 :: v140 :: u141 :: u142 :: u143 :: u144 :: u145 :: u146 :: u147 :: u148 :: u149 :: u150 :: u151 :: u152 :: u153 :: u154 :: u155 :: u156 :: u157 :: u158 :: u159 :: u160 :: u161 :: []), []⟩ w') :
    Code.wp Tryd.prog dpIn (Exit.then K Q) ⟨List.toArray (.int .i64 (n : Nat) :: u1 :: u2 :: u3 :: u4 :: .pointer (some ⟨gu, 0, none⟩) :: u6 :: .pointer (some ⟨gr, 0, none⟩) :: u8 :: u9 :: u10 :: u11 :: u12 :: .int .i64 0 :: u14 :: u15 :: u16 :: u17 :: u18 :: u19 :: u20 :: u21 :: u22 :: u23 :: u24 :: u25 :: u26 :: u27 :: u28 :: u29 :: u30 :: u31 :: u32 :: u33 :: u34 :: u35 :: u36 :: u37 :: u38 :: u39 :: u40 :: u41 :: u42 :: u43 :: u44 :: u45 :: u46 :: u47 :: u48 :: u49 :: u50 :: u51 :: u52 :: u53 :: u54 :: u55 :: u56 :: u57 :: u58 :: u59 :: u60 :: u61 :: u62 :: u63 :: u64 :: u65 :: u66 :: u67 :: u68 :: u69 :: u70 :: u71 :: u72 :: u73 :: u74 :: u75 :: u76 :: u77 :: u78 :: u79 :: u80 :: u81 :: u82 :: u83 :: u84 :: u85 :: u86 :: u87 :: u88 :: u89 :: u90 :: u91 :: u92 :: u93 :: u94 :: u95 :: u96 :: u97 :: u98 :: u99 :: u100 :: u101 :: u102 :: u103 :: u104 :: u105 :: u106 :: u107 :: u108 :: u109 :: u110 :: u111 :: u112 :: u113 :: u114 :: u115 :: u116 :: u117 :: u118 :: u119 :: u120 :: u121 :: u122 :: u123 :: u124 :: u125 :: u126 :: u127 :: u128 :: u129 :: u130 :: u131 :: u132 :: u133 :: u134 :: u135 :: u136 :: u137 :: u138 :: u139 :: u140 :: u141 :: u142 :: u143 :: u144 :: u145 :: u146 :: u147 :: u148 :: u149 :: u150 :: u151 :: u152 :: u153 :: u154 :: u155 :: u156 :: u157 :: u158 :: u159 :: u160 :: u161 :: []), []⟩ w1 := by
  have HK := Lib.hid hK
  have H0 := Lib.hid h
  clear hK h
  simp only [dpIn, dpRound, cBody, cFst, cSnd, cArm, Tryd.f3]
  go_wp2_with fail
  go_loopw [13] (fun v wr => ∃ j : Nat, j ≤ n ∧ v = .int .i64 j ∧ Hid (DpR W n d d gu gr none wr)) (fun v _ => n - (intOf v).toNat)
  case atStart => exact ⟨0, by omega, rfl, H0.out⟩
  case round =>
    obtain ⟨j, hj, rfl, HR⟩ := hrel
    by_cases hjn : j < n
    · have z0 : (0 : Int) ≤ (j : Int) := by omega
      have z1 : (j : Int) < (n : Int) := by omega
      go_wp2_with fail
      refine (dp_dread HR.out j hjn).mono ?_
      rintro e w3 ⟨bg, bc, rfl, hbl, hown, hbel⟩
      have HR3 := Lib.hid (HR.out.ext hbel)
      obtain ⟨gn, cn, b, c, p1, p2, ho⟩ := dp_page HR3.out j hjn
      have s1 := run_own_string hown
      have s2 := run_own_string ho
      have t1 : ∀ m, (convert 33 9 (.slice (some ⟨bg, 0, none⟩) 32 bc)).run Tryd.prog (w3.drewN m) = .ok (.string (strOfNums (d.now.getD j []))) (w3.drewN m) := fun m => run_own_string (own_chg hown (Chg.of_below (B := w3.heap.size) (below_drewN' (Below.refl _ _) m)) (fun k hk => by have := own_lt hown hk; omega))
      have t2 : ∀ m, (convert 33 9 (.slice (some ⟨b, 0, none⟩) 32 c)).run Tryd.prog (w3.drewN m) = .ok (.string (strOfNums (d.now.getD j []))) (w3.drewN m) := fun m => run_own_string (own_chg ho (Chg.of_below (B := w3.heap.size) (below_drewN' (Below.refl _ _) m)) (fun k hk => by have := own_lt ho hk; omega))
      clear hbl hown hbel ho
      generalize strOfNums (d.now.getD j []) = st at s1 s2 t1 t2
      go_wp2
      go_quiet (fail)
      have HR4 := Lib.hid (HR3.out.ext (below_drewN' (Below.refl _ _) nq))
      clear s1 s2 t1 t2
      go_wp2
      go_roundw
      case rel => exact ⟨j + 1, by omega, by go_num, HR4.out⟩
      case measure => simp [intOf]; omega
    · go_wp2
      exact HK.out _ _ _ _ _ _ _ _ _ _ _ _ _ _ _ _ _ _ _ _ _ _ _ _ _ _ _ _ _ _ _ HR.out
end Go.Proofs.YtenjblonepegfaaDoor

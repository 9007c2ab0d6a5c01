/-
  A case of DiskPlays' switch. Conditions: the disks lie as 'DpR' says, the step as it came in.
-/
import Derived.Test.YtenjblonepegfaaDoorDp1
import Derived.Deep.CutBlock
import Derived.Deep.DeepCutAuto
import Derived.StillTailTactics
namespace Go.Proofs.YtenjblonepegfaaDoor
open Go Go.RowKit
set_option linter.unusedVariables false
set_option maxRecDepth 100000 in
set_option maxHeartbeats 4000000 in
theorem sw_ds (u1 u2 u3 u4 u6 u8 u11 u12 u13 u14 u15 u16 u17 u18 u19 u20 u21 u22 u23 u24 u25 u26 u27 u28 u29 u30 u31 u32 u33 u34 u35 u36 u37 u38 u39 u40 u41 u42 u43 u44 u45 u46 u47 u48 u49 u50 u51 u52 u53 u54 u55 u56 u57 u58 u61 u62 u63 u64 u65 u66 u67 u68 u69 u70 u71 u72 u73 u74 u75 u76 u77 u78 u79 u80 u81 u82 u83 u84 u85 u86 u87 u88 u89 u90 u91 u92 u93 u94 u95 u96 u97 u98 u99 u100 u101 u102 u103 u104 u105 u106 u107 u108 u109 u110 u111 u112 u113 u114 u115 u116 u117 u118 u119 u120 u121 u122 u123 u124 u125 u126 u127 u128 u129 u130 u131 u132 u133 u134 u135 u136 u137 u138 u139 u140 u141 u142 u143 u144 u145 u146 u147 u148 u149 u150 u151 u152 u153 u154 u155 u156 u157 u158 u159 u160 u161 : Value) (W w1 : World) (n : Nat) (d : DK.D) (gu gr gs k : Nat) (t x : Int) (A : Option Addr) (m c : Nat) (b : List Int) (KA : Option Addr) (km kc : Nat) (kl : List Int) (ev : Value) (h : DpR W n d d gu gr (some (gs, #[.int .i64 t, .int .i64 x, .slice A m c, .slice KA km kc, ev])) w1) (hd : Td.Door W) (hA : BytesAt W A b) (hbl : b.length = m) (hbm : m ≤ maxLen) (hki : IntsAt W KA kl) (hkl : kl.length = km) (hkm : km ≤ maxLen) (hx64 : -9223372036854775808 ≤ x ∧ x ≤ 9223372036854775807) (hws : d.ws.length ≤ k) (hk50 : k ≤ 50) (q : t = 4) (K : Act → World → Prop) (Q : Exit → Act → World → Prop)
    (hK : ∀ (v11 v12 v61 v62 v63 v64 v65 v66 v67 v68 v69 v70 v71 v72 v73 v74 v75 v76 v77 v78 v79 v80 v81 v82 v83 v84 v85 v86 v87 v88 v89 v90 v91 v92 v93 v94 v95 v96 v97 v98 v99 v100 v101 v102 v103 v104 v105 v106 v107 v108 v109 v110 v111 v112 : Value) (w' : World) (d' : DK.D), DpR W n d' d' gu gr (some (gs, #[.int .i64 t, .int .i64 x, .slice A m c, .slice KA km kc, ev])) w' → d'.ws.length ≤ k + 1 → K ⟨List.toArray (.int .i64 (n : Nat) :: u1 :: u2 :: u3 :: u4 :: .pointer (some ⟨gu, 0, none⟩) :: u6 :: .pointer (some ⟨gr, 0, none⟩) :: u8 :: .pointer (some ⟨gs, 0, none⟩) :: .bool true :: v11 :: v12 :: u13 :: u14 :: u15 :: u16 :: u17 :: u18 :: u19 :: u20 :: u21 :: u22 :: u23 :: u24 :: u25 :: u26 :: u27 :: u28 :: u29 :: u30 :: u31 :: u32 :: u33 :: u34 :: u35 :: u36 :: u37 :: u38 :: u39 :: u40 :: u41 :: u42 :: u43 :: u44 :: u45 :: u46 :: u47 :: u48 :: u49 :: u50 :: u51 :: u52 :: u53 :: u54 :: u55 :: u56 :: u57 :: u58 :: .pointer (some ⟨gs, 0, none⟩) :: .int .i64 t :: v61 :: v62 :: v63 :: v64 :: v65 :: v66 :: v67 :: v68 :: v69 :: v70 :: v71 :: v72 :: v73 :: v74 :: v75 :: v76 :: v77 :: v78 :: v79 :: v80 :: v81 :: v82 :: v83 :: v84 :: v85 :: v86 :: v87 :: v88 :: v89 :: v90 :: v91 :: v92 :: v93 :: v94 :: v95 :: v96 :: v97 :: v98 :: v99 :: v100 :: v101 :: v102 :: v103 :: v104 :: v105 :: v106 :: v107 :: v108 :: v109 :: v110 :: v111 :: v112 :: u113 :: u114 :: u115 :: u116 :: u117 :: u118 :: u119 :: u120 :: u121 :: u122 :: u123 :: u124 :: u125 :: u126 :: u127 :: u128 :: u129 :: u130 :: u131 :: u132 :: u133 :: u134 :: u135 :: u136 :: u137 :: u138 :: u139 :: u140 :: u141 :: u142 :: u143 :: u144 :: u145 :: u146 :: u147 :: u148 :: u149 :: u150 :: u151 :: u152 :: u153 :: u154 :: u155 :: u156 :: u157 :: u158 :: u159 :: u160 :: u161 :: []), []⟩ w') :
    Code.wp Tryd.prog dpSw (Exit.then K Q) ⟨List.toArray (.int .i64 (n : Nat) :: u1 :: u2 :: u3 :: u4 :: .pointer (some ⟨gu, 0, none⟩) :: u6 :: .pointer (some ⟨gr, 0, none⟩) :: u8 :: .pointer (some ⟨gs, 0, none⟩) :: .bool true :: u11 :: u12 :: u13 :: u14 :: u15 :: u16 :: u17 :: u18 :: u19 :: u20 :: u21 :: u22 :: u23 :: u24 :: u25 :: u26 :: u27 :: u28 :: u29 :: u30 :: u31 :: u32 :: u33 :: u34 :: u35 :: u36 :: u37 :: u38 :: u39 :: u40 :: u41 :: u42 :: u43 :: u44 :: u45 :: u46 :: u47 :: u48 :: u49 :: u50 :: u51 :: u52 :: u53 :: u54 :: u55 :: u56 :: u57 :: u58 :: .pointer (some ⟨gs, 0, none⟩) :: .int .i64 t :: u61 :: u62 :: u63 :: u64 :: u65 :: u66 :: u67 :: u68 :: u69 :: u70 :: u71 :: u72 :: u73 :: u74 :: u75 :: u76 :: u77 :: u78 :: u79 :: u80 :: u81 :: u82 :: u83 :: u84 :: u85 :: u86 :: u87 :: u88 :: u89 :: u90 :: u91 :: u92 :: u93 :: u94 :: u95 :: u96 :: u97 :: u98 :: u99 :: u100 :: u101 :: u102 :: u103 :: u104 :: u105 :: u106 :: u107 :: u108 :: u109 :: u110 :: u111 :: u112 :: u113 :: u114 :: u115 :: u116 :: u117 :: u118 :: u119 :: u120 :: u121 :: u122 :: u123 :: u124 :: u125 :: u126 :: u127 :: u128 :: u129 :: u130 :: u131 :: u132 :: u133 :: u134 :: u135 :: u136 :: u137 :: u138 :: u139 :: u140 :: u141 :: u142 :: u143 :: u144 :: u145 :: u146 :: u147 :: u148 :: u149 :: u150 :: u151 :: u152 :: u153 :: u154 :: u155 :: u156 :: u157 :: u158 :: u159 :: u160 :: u161 :: []), []⟩ w1 := by
  have HK := Lib.hid hK
  have H1 := Lib.hid h
  have HD := Lib.hid hd
  have HA := Lib.hid hA
  have HBL := Lib.hid hbl
  have HKI := Lib.hid hki
  have HKL := Lib.hid hkl
  unfold maxLen at hbm hkm
  clear hK h hd hA hbl hki hkl
  simp only [dpSw, dpRound, cBody, cFst, cSnd, cArm, Tryd.f3]
  subst q
  go_wp2_with fail
  refine (dp_rsync H1.out).mono ?_
  rintro e w2 ⟨rfl, h2⟩
  have H2 := Lib.hid h2
  clear h2
  go_wp2_with fail
  refine (dp_dsync H2.out).mono ?_
  rintro e w3 ⟨rfl, h3⟩
  have H3 := Lib.hid h3
  clear h3
  go_wp2_with fail
  refine (same_opt w3 (synErr d) (HD.out.new H3.out.bel)).mono ?_
  rintro e w4 ⟨rfl, h4⟩
  have H4 := Lib.hid (H3.out.ext h4)
  clear h4
  go_wp2
  exact HK.out _ _ _ _ _ _ _ _ _ _ _ _ _ _ _ _ _ _ _ _ _ _ _ _ _ _ _ _ _ _ _ _ _ _ _ _ _ _ _ _ _ _ _ _ _ _ _ _ _ _ _ _ _ _ w4 _ H4.out (Nat.le_trans (ws_sync d) (by omega))
set_option maxRecDepth 100000 in
set_option maxHeartbeats 4000000 in
theorem sw_df (u1 u2 u3 u4 u6 u8 u11 u12 u13 u14 u15 u16 u17 u18 u19 u20 u21 u22 u23 u24 u25 u26 u27 u28 u29 u30 u31 u32 u33 u34 u35 u36 u37 u38 u39 u40 u41 u42 u43 u44 u45 u46 u47 u48 u49 u50 u51 u52 u53 u54 u55 u56 u57 u58 u61 u62 u63 u64 u65 u66 u67 u68 u69 u70 u71 u72 u73 u74 u75 u76 u77 u78 u79 u80 u81 u82 u83 u84 u85 u86 u87 u88 u89 u90 u91 u92 u93 u94 u95 u96 u97 u98 u99 u100 u101 u102 u103 u104 u105 u106 u107 u108 u109 u110 u111 u112 u113 u114 u115 u116 u117 u118 u119 u120 u121 u122 u123 u124 u125 u126 u127 u128 u129 u130 u131 u132 u133 u134 u135 u136 u137 u138 u139 u140 u141 u142 u143 u144 u145 u146 u147 u148 u149 u150 u151 u152 u153 u154 u155 u156 u157 u158 u159 u160 u161 : Value) (W w1 : World) (n : Nat) (d : DK.D) (gu gr gs k : Nat) (t x : Int) (A : Option Addr) (m c : Nat) (b : List Int) (KA : Option Addr) (km kc : Nat) (kl : List Int) (ev : Value) (h : DpR W n d d gu gr (some (gs, #[.int .i64 t, .int .i64 x, .slice A m c, .slice KA km kc, ev])) w1) (hd : Td.Door W) (hA : BytesAt W A b) (hbl : b.length = m) (hbm : m ≤ maxLen) (hki : IntsAt W KA kl) (hkl : kl.length = km) (hkm : km ≤ maxLen) (hx64 : -9223372036854775808 ≤ x ∧ x ≤ 9223372036854775807) (hws : d.ws.length ≤ k) (hk50 : k ≤ 50) (q : t = 5) (K : Act → World → Prop) (Q : Exit → Act → World → Prop)
    (hK : ∀ (v11 v12 v61 v62 v63 v64 v65 v66 v67 v68 v69 v70 v71 v72 v73 v74 v75 v76 v77 v78 v79 v80 v81 v82 v83 v84 v85 v86 v87 v88 v89 v90 v91 v92 v93 v94 v95 v96 v97 v98 v99 v100 v101 v102 v103 v104 v105 v106 v107 v108 v109 v110 v111 v112 : Value) (w' : World) (d' : DK.D), DpR W n d' d' gu gr (some (gs, #[.int .i64 t, .int .i64 x, .slice A m c, .slice KA km kc, ev])) w' → d'.ws.length ≤ k + 1 → K ⟨List.toArray (.int .i64 (n : Nat) :: u1 :: u2 :: u3 :: u4 :: .pointer (some ⟨gu, 0, none⟩) :: u6 :: .pointer (some ⟨gr, 0, none⟩) :: u8 :: .pointer (some ⟨gs, 0, none⟩) :: .bool true :: v11 :: v12 :: u13 :: u14 :: u15 :: u16 :: u17 :: u18 :: u19 :: u20 :: u21 :: u22 :: u23 :: u24 :: u25 :: u26 :: u27 :: u28 :: u29 :: u30 :: u31 :: u32 :: u33 :: u34 :: u35 :: u36 :: u37 :: u38 :: u39 :: u40 :: u41 :: u42 :: u43 :: u44 :: u45 :: u46 :: u47 :: u48 :: u49 :: u50 :: u51 :: u52 :: u53 :: u54 :: u55 :: u56 :: u57 :: u58 :: .pointer (some ⟨gs, 0, none⟩) :: .int .i64 t :: v61 :: v62 :: v63 :: v64 :: v65 :: v66 :: v67 :: v68 :: v69 :: v70 :: v71 :: v72 :: v73 :: v74 :: v75 :: v76 :: v77 :: v78 :: v79 :: v80 :: v81 :: v82 :: v83 :: v84 :: v85 :: v86 :: v87 :: v88 :: v89 :: v90 :: v91 :: v92 :: v93 :: v94 :: v95 :: v96 :: v97 :: v98 :: v99 :: v100 :: v101 :: v102 :: v103 :: v104 :: v105 :: v106 :: v107 :: v108 :: v109 :: v110 :: v111 :: v112 :: u113 :: u114 :: u115 :: u116 :: u117 :: u118 :: u119 :: u120 :: u121 :: u122 :: u123 :: u124 :: u125 :: u126 :: u127 :: u128 :: u129 :: u130 :: u131 :: u132 :: u133 :: u134 :: u135 :: u136 :: u137 :: u138 :: u139 :: u140 :: u141 :: u142 :: u143 :: u144 :: u145 :: u146 :: u147 :: u148 :: u149 :: u150 :: u151 :: u152 :: u153 :: u154 :: u155 :: u156 :: u157 :: u158 :: u159 :: u160 :: u161 :: []), []⟩ w') :
    Code.wp Tryd.prog dpSw (Exit.then K Q) ⟨List.toArray (.int .i64 (n : Nat) :: u1 :: u2 :: u3 :: u4 :: .pointer (some ⟨gu, 0, none⟩) :: u6 :: .pointer (some ⟨gr, 0, none⟩) :: u8 :: .pointer (some ⟨gs, 0, none⟩) :: .bool true :: u11 :: u12 :: u13 :: u14 :: u15 :: u16 :: u17 :: u18 :: u19 :: u20 :: u21 :: u22 :: u23 :: u24 :: u25 :: u26 :: u27 :: u28 :: u29 :: u30 :: u31 :: u32 :: u33 :: u34 :: u35 :: u36 :: u37 :: u38 :: u39 :: u40 :: u41 :: u42 :: u43 :: u44 :: u45 :: u46 :: u47 :: u48 :: u49 :: u50 :: u51 :: u52 :: u53 :: u54 :: u55 :: u56 :: u57 :: u58 :: .pointer (some ⟨gs, 0, none⟩) :: .int .i64 t :: u61 :: u62 :: u63 :: u64 :: u65 :: u66 :: u67 :: u68 :: u69 :: u70 :: u71 :: u72 :: u73 :: u74 :: u75 :: u76 :: u77 :: u78 :: u79 :: u80 :: u81 :: u82 :: u83 :: u84 :: u85 :: u86 :: u87 :: u88 :: u89 :: u90 :: u91 :: u92 :: u93 :: u94 :: u95 :: u96 :: u97 :: u98 :: u99 :: u100 :: u101 :: u102 :: u103 :: u104 :: u105 :: u106 :: u107 :: u108 :: u109 :: u110 :: u111 :: u112 :: u113 :: u114 :: u115 :: u116 :: u117 :: u118 :: u119 :: u120 :: u121 :: u122 :: u123 :: u124 :: u125 :: u126 :: u127 :: u128 :: u129 :: u130 :: u131 :: u132 :: u133 :: u134 :: u135 :: u136 :: u137 :: u138 :: u139 :: u140 :: u141 :: u142 :: u143 :: u144 :: u145 :: u146 :: u147 :: u148 :: u149 :: u150 :: u151 :: u152 :: u153 :: u154 :: u155 :: u156 :: u157 :: u158 :: u159 :: u160 :: u161 :: []), []⟩ w1 := by
  have HK := Lib.hid hK
  have H1 := Lib.hid h
  have HD := Lib.hid hd
  have HA := Lib.hid hA
  have HBL := Lib.hid hbl
  have HKI := Lib.hid hki
  have HKL := Lib.hid hkl
  unfold maxLen at hbm hkm
  clear hK h hd hA hbl hki hkl
  simp only [dpSw, dpRound, cBody, cFst, cSnd, cArm, Tryd.f3]
  subst q
  have d1 : w1.cell? ⟨gs, 1, none⟩ = some (.int .i64 x) := H1.out.box.cell 1
  go_wp2_with fail
  refine (dp_dfail H1.out x hx64).mono ?_
  rintro e w2 ⟨rfl, h2⟩
  have H2 := Lib.hid h2
  have e1 : w2.cell? ⟨gs, 1, none⟩ = some (.int .i64 x) := h2.box.cell 1
  obtain ⟨⟨lv, c3⟩, f3, hset⟩ := dp_left h2
  have hne := h2.neq
  have hne' : gr ≠ gs := fun e => hne e.symm
  clear h2 d1
  by_cases hx0 : x < 0
  · have HN : Hid (DpR W n (failTo d x) (failTo d x) gu gr (some (gs, #[.int .i64 5, .int .i64 x, .slice A m c, .slice KA km kc, ev])) ((w2.setCell ⟨gr, 3, none⟩ (.int .i64 x)).setCell ⟨gr, 3, none⟩ (.int .i64 (-1)))) := by
      have := dp_left2 H2.out x (-1) (by omega)
      unfold Hid failTo at *
      rwa [show max x (-1) = -1 by omega] at this ⊢
    clear hset
    go_wp2
    exact HK.out _ _ _ _ _ _ _ _ _ _ _ _ _ _ _ _ _ _ _ _ _ _ _ _ _ _ _ _ _ _ _ _ _ _ _ _ _ _ _ _ _ _ _ _ _ _ _ _ _ _ _ _ _ _ _ _ HN.out (by simp [failTo]; omega)
  · have HN : Hid (DpR W n (failTo d x) (failTo d x) gu gr (some (gs, #[.int .i64 5, .int .i64 x, .slice A m c, .slice KA km kc, ev])) (w2.setCell ⟨gr, 3, none⟩ (.int .i64 x))) := by
      have := hset x (by omega)
      unfold Hid failTo at *
      rwa [show max x (-1) = x by omega] at this ⊢
    clear hset
    go_wp2
    exact HK.out _ _ _ _ _ _ _ _ _ _ _ _ _ _ _ _ _ _ _ _ _ _ _ _ _ _ _ _ _ _ _ _ _ _ _ _ _ _ _ _ _ _ _ _ _ _ _ _ _ _ _ _ _ _ _ _ HN.out (by simp [failTo]; omega)
set_option maxRecDepth 100000 in
set_option maxHeartbeats 4000000 in
theorem sw_dc (u1 u2 u3 u4 u6 u8 u11 u12 u13 u14 u15 u16 u17 u18 u19 u20 u21 u22 u23 u24 u25 u26 u27 u28 u29 u30 u31 u32 u33 u34 u35 u36 u37 u38 u39 u40 u41 u42 u43 u44 u45 u46 u47 u48 u49 u50 u51 u52 u53 u54 u55 u56 u57 u58 u61 u62 u63 u64 u65 u66 u67 u68 u69 u70 u71 u72 u73 u74 u75 u76 u77 u78 u79 u80 u81 u82 u83 u84 u85 u86 u87 u88 u89 u90 u91 u92 u93 u94 u95 u96 u97 u98 u99 u100 u101 u102 u103 u104 u105 u106 u107 u108 u109 u110 u111 u112 u113 u114 u115 u116 u117 u118 u119 u120 u121 u122 u123 u124 u125 u126 u127 u128 u129 u130 u131 u132 u133 u134 u135 u136 u137 u138 u139 u140 u141 u142 u143 u144 u145 u146 u147 u148 u149 u150 u151 u152 u153 u154 u155 u156 u157 u158 u159 u160 u161 : Value) (W w1 : World) (n : Nat) (d : DK.D) (gu gr gs k : Nat) (t x : Int) (A : Option Addr) (m c : Nat) (b : List Int) (KA : Option Addr) (km kc : Nat) (kl : List Int) (ev : Value) (h : DpR W n d d gu gr (some (gs, #[.int .i64 t, .int .i64 x, .slice A m c, .slice KA km kc, ev])) w1) (hd : Td.Door W) (hA : BytesAt W A b) (hbl : b.length = m) (hbm : m ≤ maxLen) (hki : IntsAt W KA kl) (hkl : kl.length = km) (hkm : km ≤ maxLen) (hx64 : -9223372036854775808 ≤ x ∧ x ≤ 9223372036854775807) (hws : d.ws.length ≤ k) (hk50 : k ≤ 50) (q : t ≠ 0 ∧ t ≠ 1 ∧ t ≠ 2 ∧ t ≠ 3 ∧ t ≠ 4 ∧ t ≠ 5) (K : Act → World → Prop) (Q : Exit → Act → World → Prop)
    (hK : ∀ (v11 v12 v61 v62 v63 v64 v65 v66 v67 v68 v69 v70 v71 v72 v73 v74 v75 v76 v77 v78 v79 v80 v81 v82 v83 v84 v85 v86 v87 v88 v89 v90 v91 v92 v93 v94 v95 v96 v97 v98 v99 v100 v101 v102 v103 v104 v105 v106 v107 v108 v109 v110 v111 v112 : Value) (w' : World) (d' : DK.D), DpR W n d' d' gu gr (some (gs, #[.int .i64 t, .int .i64 x, .slice A m c, .slice KA km kc, ev])) w' → d'.ws.length ≤ k + 1 → K ⟨List.toArray (.int .i64 (n : Nat) :: u1 :: u2 :: u3 :: u4 :: .pointer (some ⟨gu, 0, none⟩) :: u6 :: .pointer (some ⟨gr, 0, none⟩) :: u8 :: .pointer (some ⟨gs, 0, none⟩) :: .bool true :: v11 :: v12 :: u13 :: u14 :: u15 :: u16 :: u17 :: u18 :: u19 :: u20 :: u21 :: u22 :: u23 :: u24 :: u25 :: u26 :: u27 :: u28 :: u29 :: u30 :: u31 :: u32 :: u33 :: u34 :: u35 :: u36 :: u37 :: u38 :: u39 :: u40 :: u41 :: u42 :: u43 :: u44 :: u45 :: u46 :: u47 :: u48 :: u49 :: u50 :: u51 :: u52 :: u53 :: u54 :: u55 :: u56 :: u57 :: u58 :: .pointer (some ⟨gs, 0, none⟩) :: .int .i64 t :: v61 :: v62 :: v63 :: v64 :: v65 :: v66 :: v67 :: v68 :: v69 :: v70 :: v71 :: v72 :: v73 :: v74 :: v75 :: v76 :: v77 :: v78 :: v79 :: v80 :: v81 :: v82 :: v83 :: v84 :: v85 :: v86 :: v87 :: v88 :: v89 :: v90 :: v91 :: v92 :: v93 :: v94 :: v95 :: v96 :: v97 :: v98 :: v99 :: v100 :: v101 :: v102 :: v103 :: v104 :: v105 :: v106 :: v107 :: v108 :: v109 :: v110 :: v111 :: v112 :: u113 :: u114 :: u115 :: u116 :: u117 :: u118 :: u119 :: u120 :: u121 :: u122 :: u123 :: u124 :: u125 :: u126 :: u127 :: u128 :: u129 :: u130 :: u131 :: u132 :: u133 :: u134 :: u135 :: u136 :: u137 :: u138 :: u139 :: u140 :: u141 :: u142 :: u143 :: u144 :: u145 :: u146 :: u147 :: u148 :: u149 :: u150 :: u151 :: u152 :: u153 :: u154 :: u155 :: u156 :: u157 :: u158 :: u159 :: u160 :: u161 :: []), []⟩ w') :
    Code.wp Tryd.prog dpSw (Exit.then K Q) ⟨List.toArray (.int .i64 (n : Nat) :: u1 :: u2 :: u3 :: u4 :: .pointer (some ⟨gu, 0, none⟩) :: u6 :: .pointer (some ⟨gr, 0, none⟩) :: u8 :: .pointer (some ⟨gs, 0, none⟩) :: .bool true :: u11 :: u12 :: u13 :: u14 :: u15 :: u16 :: u17 :: u18 :: u19 :: u20 :: u21 :: u22 :: u23 :: u24 :: u25 :: u26 :: u27 :: u28 :: u29 :: u30 :: u31 :: u32 :: u33 :: u34 :: u35 :: u36 :: u37 :: u38 :: u39 :: u40 :: u41 :: u42 :: u43 :: u44 :: u45 :: u46 :: u47 :: u48 :: u49 :: u50 :: u51 :: u52 :: u53 :: u54 :: u55 :: u56 :: u57 :: u58 :: .pointer (some ⟨gs, 0, none⟩) :: .int .i64 t :: u61 :: u62 :: u63 :: u64 :: u65 :: u66 :: u67 :: u68 :: u69 :: u70 :: u71 :: u72 :: u73 :: u74 :: u75 :: u76 :: u77 :: u78 :: u79 :: u80 :: u81 :: u82 :: u83 :: u84 :: u85 :: u86 :: u87 :: u88 :: u89 :: u90 :: u91 :: u92 :: u93 :: u94 :: u95 :: u96 :: u97 :: u98 :: u99 :: u100 :: u101 :: u102 :: u103 :: u104 :: u105 :: u106 :: u107 :: u108 :: u109 :: u110 :: u111 :: u112 :: u113 :: u114 :: u115 :: u116 :: u117 :: u118 :: u119 :: u120 :: u121 :: u122 :: u123 :: u124 :: u125 :: u126 :: u127 :: u128 :: u129 :: u130 :: u131 :: u132 :: u133 :: u134 :: u135 :: u136 :: u137 :: u138 :: u139 :: u140 :: u141 :: u142 :: u143 :: u144 :: u145 :: u146 :: u147 :: u148 :: u149 :: u150 :: u151 :: u152 :: u153 :: u154 :: u155 :: u156 :: u157 :: u158 :: u159 :: u160 :: u161 :: []), []⟩ w1 := by
  have HK := Lib.hid hK
  have H1 := Lib.hid h
  have HD := Lib.hid hd
  have HA := Lib.hid hA
  have HBL := Lib.hid hbl
  have HKI := Lib.hid hki
  have HKL := Lib.hid hkl
  unfold maxLen at hbm hkm
  clear hK h hd hA hbl hki hkl
  simp only [dpSw, dpRound, cBody, cFst, cSnd, cArm, Tryd.f3]
  have z0 : (t == 0) = false := by simpa using q.1
  have z1 : (t == 1) = false := by simpa using q.2.1
  have z2 : (t == 2) = false := by simpa using q.2.2.1
  have z3 : (t == 3) = false := by simpa using q.2.2.2.1
  have z4 : (t == 4) = false := by simpa using q.2.2.2.2.1
  have z5 : (t == 5) = false := by simpa using q.2.2.2.2.2
  have d3 : w1.cell? ⟨gs, 3, none⟩ = some (.slice KA km kc) := H1.out.box.cell 3
  clear q
  go_wp2_with fail
  refine (dp_dcrash H1.out KA km kc kl HKI.out HKL.out (by unfold maxLen; omega)).mono ?_
  rintro e w2 ⟨rfl, h2⟩
  have H2 := Lib.hid h2
  have e3 : w2.cell? ⟨gs, 3, none⟩ = some (.slice KA km kc) := h2.box.cell 3
  clear h2 d3
  go_wp2_with fail
  refine (dp_rcrash H2.out KA km kc kl HKI.out HKL.out (by unfold maxLen; omega)).mono ?_
  rintro e w3 ⟨rfl, h3⟩
  have H3 := Lib.hid h3
  clear h3 e3
  go_wp2
  exact HK.out _ _ _ _ _ _ _ _ _ _ _ _ _ _ _ _ _ _ _ _ _ _ _ _ _ _ _ _ _ _ _ _ _ _ _ _ _ _ _ _ _ _ _ _ _ _ _ _ _ _ _ _ _ _ w3 _ H3.out (by simp [DK.crash])
end Go.Proofs.YtenjblonepegfaaDoor

/-
  The round's second half: each row is what its list is, and as deep as it may be. Conditions: the state is as 'PSt' says.
-/
import Derived.Test.YtenjblonepegfaaDoorSq9
import Derived.Deep.CutBlock
import Derived.Deep.DeepCutAuto
import Derived.StillTailTactics
namespace Go.Proofs.YtenjblonepegfaaDoor
open Go Go.RowKit SQ
set_option linter.unusedVariables false
set_option maxRecDepth 100000 in
set_option maxHeartbeats 4000000 in
theorem in_any (u0 u1 u2 u5 u6 u7 u8 u9 u10 u11 u12 u13 u14 u15 u16 u17 u18 u19 u20 u21 u22 u23 u24 u26 u27 u28 u29 u30 u31 u32 u33 u34 u35 u36 u37 u38 u39 u40 u41 u42 u43 u44 u45 u46 u47 u48 u49 u50 u51 u52 u53 u54 u55 u56 u57 u58 u59 u60 u61 u62 u63 u64 u65 u66 u67 u68 u69 u70 u71 u72 u73 u74 u75 u76 u77 u78 u79 u80 u81 u82 u83 u84 u85 u86 u87 u88 u89 u90 u91 u92 u93 u94 u95 u96 u97 u98 u99 u100 u101 u102 u103 u104 u105 u106 u107 u108 u109 u110 u111 u112 u113 u114 u115 u116 u117 u118 u119 u120 u121 u122 u123 u124 u125 u126 u127 u128 u129 u130 u131 u132 u133 u134 u135 u136 u137 u138 u139 u140 u141 u142 u143 u144 u145 u146 u147 u148 u149 u150 u151 u152 u153 u154 u155 u156 u157 u158 u159 u160 u161 u162 u163 u164 u165 u166 u167 u168 u169 u170 u171 u172 u173 u174 u175 u176 u177 u178 u179 u180 u181 u182 u183 u184 u185 u186 u187 u188 u189 u190 u191 u192 u193 u194 u195 u196 u197 u198 u199 u200 u201 u202 u203 u204 u205 u206 u207 u208 u209 u210 u211 u212 u213 u214 u215 u216 u217 u218 u219 u220 u221 u222 u223 u224 u225 u226 u227 u228 u229 u230 u231 u232 u233 u234 u235 u236 u237 u238 u239 u240 u241 u242 u243 u244 u245 u246 u247 u248 u249 u250 u251 u252 u253 u254 u255 u256 u257 u258 u259 u260 u261 u262 u263 u264 u265 u266 u267 u268 u269 u270 u271 u272 u273 u274 u275 u276 u277 u278 u279 u280 u281 u282 u283 u284 u285 u286 u287 u288 u289 u290 u291 u292 u293 u294 u295 u296 u297 u298 u299 u300 u301 u302 u303 u304 u305 u306 u307 u308 u309 u310 : Value) (W w1 : World) (m gr c1 gw c2 : Nat) (L : List QR) (hP : PSt W w1 (.slice (some ⟨gr, 0, none⟩) m c1) (.slice (some ⟨gw, 0, none⟩) m c2) L) (hlm : L.length = m) (hm81 : m ≤ 100) (Q : Exit → Act → World → Prop)
    (hK : ∀ (v2 v25 v26 v265 v266 v267 v268 v269 v270 v271 v272 v273 v274 v275 v276 v277 v278 v279 v280 v281 v282 v283 v284 v285 v286 v287 v288 v289 v290 v291 v292 v293 v294 v295 v296 v297 v298 v299 v300 v301 v302 v303 v304 v305 v306 v307 v308 v309 v310 : Value) (w' : World), PSt W w' (.slice (some ⟨gr, 0, none⟩) m c1) (.slice (some ⟨gw, 0, none⟩) m c2) L → Q .normal ⟨List.toArray (u0 :: u1 :: v2 :: .slice (some ⟨gr, 0, none⟩) m c1 :: .slice (some ⟨gw, 0, none⟩) m c2 :: u5 :: u6 :: u7 :: u8 :: u9 :: u10 :: u11 :: u12 :: u13 :: u14 :: u15 :: u16 :: u17 :: u18 :: u19 :: u20 :: u21 :: u22 :: u23 :: u24 :: v25 :: v26 :: u27 :: u28 :: u29 :: u30 :: u31 :: u32 :: u33 :: u34 :: u35 :: u36 :: u37 :: u38 :: u39 :: u40 :: u41 :: u42 :: u43 :: u44 :: u45 :: u46 :: u47 :: u48 :: u49 :: u50 :: u51 :: u52 :: u53 :: u54 :: u55 :: u56 :: u57 :: u58 :: u59 :: u60 :: u61 :: u62 :: u63 :: u64 :: u65 :: u66 :: u67 :: u68 :: u69 :: u70 :: u71 :: u72 :: u73 :: u74 :: u75 :: u76 :: u77 :: u78 :: u79 :: u80 :: u81 :: u82 :: u83 :: u84 :: u85 :: u86 :: u87 :: u88 :: u89 :: u90 :: u91 :: u92 :: u93 :: u94 :: u95 :: u96 :: u97 :: u98 :: u99 :: u100 :: u101 :: u102 :: u103 :: u104 :: u105 :: u106 :: u107 :: u108 :: u109 :: u110 :: u111 :: u112 :: u113 :: u114 :: u115 :: u116 :: u117 :: u118 :: u119 :: u120 :: u121 :: u122 :: u123 :: u124 :: u125 :: u126 :: u127 :: u128 :: u129 :: u130 :: u131 :: u132 :: u133 :: u134 :: u135 :: u136 :: u137 :: u138 :: u139 :: u140 :: u141 :: u142 :: u143 :: u144 :: u145 :: u146 :: u147 :: u148 :: u149 :: u150 :: u151 :: u152 :: u153 :: u154 :: u155 :: u156 :: u157 :: u158 :: u159 :: u160 :: u161 :: u162 :: u163 :: u164 :: u165 :: u166 :: u167 :: u168 :: u169 :: u170 :: u171 :: u172 :: u173 :: u174 :: u175 :: u176 :: u177 :: u178 :: u179 :: u180 :: u181 :: u182 :: u183 :: u184 :: u185 :: u186 :: u187 :: u188 :: u189 :: u190 :: u191 :: u192 :: u193 :: u194 :: u195 :: u196 :: u197 :: u198 :: u199 :: u200 :: u201 :: u202 :: u203 :: u204 :: u205 :: u206 :: u207 :: u208 :: u209 :: u210 :: u211 :: u212 :: u213 :: u214 :: u215 :: u216 :: u217 :: u218 :: u219 :: u220 :: u221 :: u222 :: u223 :: u224 :: u225 :: u226 :: u227 :: u228 :: u229 :: u230 :: u231 :: u232 :: u233 :: u234 :: u235 :: u236 :: u237 :: u238 :: u239 :: u240 :: u241 :: u242 :: u243 :: u244 :: u245 :: u246 :: u247 :: u248 :: u249 :: u250 :: u251 :: u252 :: u253 :: u254 :: u255 :: u256 :: u257 :: u258 :: u259 :: u260 :: u261 :: u262 :: u263 :: u264 :: v265 :: v266 :: v267 :: v268 :: v269 :: v270 :: v271 :: v272 :: v273 :: v274 :: v275 :: v276 :: v277 :: v278 :: v279 :: v280 :: v281 :: v282 :: v283 :: v284 :: v285 :: v286 :: v287 :: v288 :: v289 :: v290 :: v291 :: v292 :: v293 :: v294 :: v295 :: v296 :: v297 :: v298 :: v299 :: v300 :: v301 :: v302 :: v303 :: v304 :: v305 :: v306 :: v307 :: v308 :: v309 :: v310 :: []), []⟩ w') :
    Code.wp Tryd.prog inCode Q ⟨List.toArray (u0 :: u1 :: u2 :: .slice (some ⟨gr, 0, none⟩) m c1 :: .slice (some ⟨gw, 0, none⟩) m c2 :: u5 :: u6 :: u7 :: u8 :: u9 :: u10 :: u11 :: u12 :: u13 :: u14 :: u15 :: u16 :: u17 :: u18 :: u19 :: u20 :: u21 :: u22 :: u23 :: u24 :: .int .i64 0 :: u26 :: u27 :: u28 :: u29 :: u30 :: u31 :: u32 :: u33 :: u34 :: u35 :: u36 :: u37 :: u38 :: u39 :: u40 :: u41 :: u42 :: u43 :: u44 :: u45 :: u46 :: u47 :: u48 :: u49 :: u50 :: u51 :: u52 :: u53 :: u54 :: u55 :: u56 :: u57 :: u58 :: u59 :: u60 :: u61 :: u62 :: u63 :: u64 :: u65 :: u66 :: u67 :: u68 :: u69 :: u70 :: u71 :: u72 :: u73 :: u74 :: u75 :: u76 :: u77 :: u78 :: u79 :: u80 :: u81 :: u82 :: u83 :: u84 :: u85 :: u86 :: u87 :: u88 :: u89 :: u90 :: u91 :: u92 :: u93 :: u94 :: u95 :: u96 :: u97 :: u98 :: u99 :: u100 :: u101 :: u102 :: u103 :: u104 :: u105 :: u106 :: u107 :: u108 :: u109 :: u110 :: u111 :: u112 :: u113 :: u114 :: u115 :: u116 :: u117 :: u118 :: u119 :: u120 :: u121 :: u122 :: u123 :: u124 :: u125 :: u126 :: u127 :: u128 :: u129 :: u130 :: u131 :: u132 :: u133 :: u134 :: u135 :: u136 :: u137 :: u138 :: u139 :: u140 :: u141 :: u142 :: u143 :: u144 :: u145 :: u146 :: u147 :: u148 :: u149 :: u150 :: u151 :: u152 :: u153 :: u154 :: u155 :: u156 :: u157 :: u158 :: u159 :: u160 :: u161 :: u162 :: u163 :: u164 :: u165 :: u166 :: u167 :: u168 :: u169 :: u170 :: u171 :: u172 :: u173 :: u174 :: u175 :: u176 :: u177 :: u178 :: u179 :: u180 :: u181 :: u182 :: u183 :: u184 :: u185 :: u186 :: u187 :: u188 :: u189 :: u190 :: u191 :: u192 :: u193 :: u194 :: u195 :: u196 :: u197 :: u198 :: u199 :: u200 :: u201 :: u202 :: u203 :: u204 :: u205 :: u206 :: u207 :: u208 :: u209 :: u210 :: u211 :: u212 :: u213 :: u214 :: u215 :: u216 :: u217 :: u218 :: u219 :: u220 :: u221 :: u222 :: u223 :: u224 :: u225 :: u226 :: u227 :: u228 :: u229 :: u230 :: u231 :: u232 :: u233 :: u234 :: u235 :: u236 :: u237 :: u238 :: u239 :: u240 :: u241 :: u242 :: u243 :: u244 :: u245 :: u246 :: u247 :: u248 :: u249 :: u250 :: u251 :: u252 :: u253 :: u254 :: u255 :: u256 :: u257 :: u258 :: u259 :: u260 :: u261 :: u262 :: u263 :: u264 :: u265 :: u266 :: u267 :: u268 :: u269 :: u270 :: u271 :: u272 :: u273 :: u274 :: u275 :: u276 :: u277 :: u278 :: u279 :: u280 :: u281 :: u282 :: u283 :: u284 :: u285 :: u286 :: u287 :: u288 :: u289 :: u290 :: u291 :: u292 :: u293 :: u294 :: u295 :: u296 :: u297 :: u298 :: u299 :: u300 :: u301 :: u302 :: u303 :: u304 :: u305 :: u306 :: u307 :: u308 :: u309 :: u310 :: []), []⟩ w1 := by
  have HK := Lib.hid hK
  have HP0 := Lib.hid hP
  have HLM := Lib.hid hlm
  clear hK hP hlm
  simp only [inCode, tailCode, roundCode, cBody, cFst, cSnd, cArm, Tryd.f4]
  go_wp2_with fail
  go_loopw [25] (fun v wr => ∃ j : Nat, j ≤ m ∧ v = .int .i64 j ∧ Hid (PSt W wr (.slice (some ⟨gr, 0, none⟩) m c1) (.slice (some ⟨gw, 0, none⟩) m c2) L)) (fun v _ => m - (intOf v).toNat)
  case atStart => exact ⟨0, by omega, rfl, HP0.out⟩
  case round =>
    obtain ⟨j, hj, rfl, HP⟩ := hrel
    by_cases hjm : j < m
    · obtain ⟨q, hq⟩ : ∃ q, L[j]? = some q := ⟨_, List.getElem?_eq_getElem (by have := HLM.out; omega)⟩
      have ra := HP.out.cellR HLM.out hq
      have wa := HP.out.cellW HLM.out hq
      have hQ := HP.out.ok q (List.mem_of_getElem? hq)
      have HLQ := Lib.hid hq
      clear hq
      obtain ⟨p, t, A, n, c⟩ := q
      have hs := hQ.len
      rw [T.len] at hs
      simp only at hs ra wa
      subst hs
      have hsz := hQ.sz
      have hcm := hQ.cm
      unfold maxLen at hcm
      simp only at hsz hcm
      have hdp := depth_dg hQ.bal
      simp only at hdp
      have hdl := T.depth_le t
      have hgl := dg_le _ t.size (Nat.le_refl _)
      have HQ := Lib.hid hQ
      clear hQ
      have z0 : (0 : Int) ≤ (j : Int) := by omega
      have z1 : (j : Int) < (m : Int) := by omega
      have z2 : ¬ 3 * (dg t.size : Int) < (t.depth : Int) := by omega
      go_wp2_with fail
      go_region_held3 (fun w' => w'.cell? ⟨gr, j, none⟩ = some (.pointer p) ∧ w'.cell? ⟨gw, j, none⟩ = some (.slice A t.size c)) (go_keep)
        (first
          | (go_at_call 28; refine (list_any _ p t ((HQ.out.ext (Below.refl _ _).drew).seq) (by omega)).mono ?_; rintro e w6 ⟨A6, c6, rfl, ho6, he6, _⟩; have HO6 := Lib.hid (IntsAt.of_own ho6).1; have HP6 := Lib.hid ((HP.out.ext (Below.refl _ _).drew).ext he6); have HQ6 := Lib.hid ((HQ.out.ext (Below.refl _ _).drew).ext he6); have p0 : w6.cell? ⟨gr, j, none⟩ = some (.pointer p) := HP6.out.cellR HLM.out HLQ.out; have p1 : w6.cell? ⟨gw, j, none⟩ = some (.slice A t.size c) := HP6.out.cellW HLM.out HLQ.out; clear ho6 he6)
          | (go_at_call 27; refine (ints_any _ A6 A _ t.size c6 c t.list t.list HO6.out (HQ6.out.ints.1) (by simp) (by simp [T.len]) (by simp [T.len]; omega) (by omega) true (by simp)).mono ?_; rintro e w7 ⟨rfl, he7⟩; have HP7 := Lib.hid (HP6.out.ext he7); have HQ7 := Lib.hid (HQ6.out.ext he7); have p2 : w7.cell? ⟨gr, j, none⟩ = some (.pointer p) := HP7.out.cellR HLM.out HLQ.out; have p3 : w7.cell? ⟨gw, j, none⟩ = some (.slice A t.size c) := HP7.out.cellW HLM.out HLQ.out; clear he7))
      clear p0 p1 ra wa
      go_wp2
      go_quiet (first
        | (go_at_call 29; exact Calls.quiet_of_same ((len_any _ p t ((HQ7.out.ext (below_drewN' (Below.refl _ _) _)).seq)).mono fun _ _ ⟨p, q⟩ => ⟨p, q.symm⟩))
        | (go_at_call 30; exact Calls.quiet_of (depth_quiet t _ p ((HQ7.out.ext (below_drewN' (Below.refl _ _) _)).seq) (by omega)))
        | (go_at_call 31; exact Calls.quiet_of_same ((digits_any _ t.size (by omega)).mono fun _ _ ⟨p, q⟩ => ⟨p, q.symm⟩)))
      have HP8 := Lib.hid (HP7.out.ext (below_drewN' (Below.refl _ _) nq))
      go_wp2
      go_roundw
      case rel => exact ⟨j + 1, by omega, by go_num, HP8.out⟩
      case measure => simp [intOf]; omega
    · have hjm' : ¬ (j : Int) < (m : Int) := by omega
      go_wp2
      exact HK.out _ _ _ _ _ _ _ _ _ _ _ _ _ _ _ _ _ _ _ _ _ _ _ _ _ _ _ _ _ _ _ _ _ _ _ _ _ _ _ _ _ _ _ _ _ _ _ _ _ _ HP.out
end Go.Proofs.YtenjblonepegfaaDoor

/-
  Walk of (*bridge.walker).walk. Conditions: the walker lies in memory as 'WkAt' says; its visit may be begun.
-/
import Derived.Test.YtakjakglkfhaaaaDoorWt
namespace Go.Proofs.YtakjakglkfhaaaaDoor
open Go Go.RowKit
set_option linter.unusedVariables false

set_option maxHeartbeats 4000000 in
set_option maxRecDepth 100000 in
theorem visit_any (w0 : World) (n Gb cb : Nat) (l : List AK.Ed) (N : Nat → List Nat) (k : Wkr) (hk : k.vB = .slice (some ⟨Gb, 0, none⟩) n cb) (hB : BesAt w0 Gb n N) (B : Nat) (hI : BesIn B w0 Gb n) (hS : ∀ j, k.S j → j < B ∨ w0.heap.size ≤ j) (hN : DF.Bes n l N) (hl : ∀ u, ¬ PD.adj l u u) (hin : ∀ u v, PD.adj l u v → v < n) (hn : n ≤ 60) (p : Nat) (f : Nat)
    (IH : ∀ (a fr ke kj : Nat) (s : DF.Wk) (vE vJ : Value) (wr : World), DF.Pre n l a fr s → DF.unv n s ≤ f → DF.Bd n ke kj s → WkAt w0 n k vE vJ s wr →
      Calls Tryd.prog 59 #[.pointer (some ⟨k.W, 0, none⟩), .int .i64 (a : Int), .int .i64 (fr : Int), .int .i64 (p : Int)] wr (WkPost w0 n k (DF.visit N p f a fr s)))
    (a fr ke kj : Nat) (s : DF.Wk) (vE vJ : Value) (wr : World) (hP : DF.Pre n l a fr s) (hf : DF.unv n s ≤ f + 1) (hb : DF.Bd n ke kj s) (h : WkAt w0 n k vE vJ s wr) :
      Calls Tryd.prog 59 #[.pointer (some ⟨k.W, 0, none⟩), .int .i64 (a : Int), .int .i64 (fr : Int), .int .i64 (p : Int)] wr (WkPost w0 n k (DF.visit N p (f + 1) a fr s)) := by
  have han := hP.an
  have htm : s.tm ≤ 60 := by have := hb.un; omega
  have HQ : Hid (∀ i, DF.At n l a fr f ke kj s i (DF.qa N p f a fr s i)) := fun i => DF.qa_at hN hl hin hP hf hb i
  have HP := Lib.hid hP
  have HB := Lib.hid hB
  have HN := Lib.hid hN
  have HI := Lib.hid hin
  have HNL := Lib.hid hl
  have HK := Lib.hid hk
  have HVP : Hid (∀ f b a s, DF.Pre n l b a s → DF.unv n s ≤ f → DF.Ok n (DF.visit N p f b a s)) := fun f b a s h1 h2 => by
    obtain ⟨T, E, h⟩ := DF.visit_post hN hl hin p f b a s h1 h2
    exact h.toOk
  have HVB : Hid (∀ f b a ke kj s, DF.Pre n l b a s → DF.unv n s ≤ f → DF.Bd n ke kj s → DF.Bd n (ke + 1) kj (DF.visit N p f b a s)) := fun f b a ke kj s h1 h2 h3 => DF.visit_bd hN hl hin p f b a ke kj s h1 h2 h3
  have H := Lib.hid h
  have HIH := Lib.hid IH
  have c4 : wr.cell? ⟨k.W, 4, none⟩ = some (.int .i64 (s.tm : Int)) := h.blk.cell 4
  have f4 := h.blk.frozen 4
  have hwt : IntKind.i64.wrap ((s.tm : Int) + 1) = ((s.tm + 1 : Nat) : Int) := IntWalk.i64_in _ (by omega)
  clear hP hf hb h hB hN hl hin hk IH
  go_enter Tryd.func59, Tryd.ntmps59
  go_upto_region 1 with fail
  have htt : ((s.tm + 1 : Nat) : Int) = (s.tm : Int) + 1 := by omega
  have H1 := H.out.setTm (s.tm + 1)
  rw [htt] at H1
  generalize wr.setCell ⟨k.W, 4, none⟩ (.int .i64 ((s.tm : Int) + 1)) = w1 at H1 ⊢
  have b1 : w1.cell? ⟨k.W, 1, none⟩ = some (.slice (some ⟨k.gw, 0, none⟩) n n) := H1.blk.cell 1
  have b2 : w1.cell? ⟨k.W, 2, none⟩ = some (.slice (some ⟨k.gl, 0, none⟩) n n) := H1.blk.cell 2
  have b3 : w1.cell? ⟨k.W, 3, none⟩ = some (.slice (some ⟨k.gp, 0, none⟩) n n) := H1.blk.cell 3
  have b4 : w1.cell? ⟨k.W, 4, none⟩ = some (.int .i64 ((s.tm : Int) + 1)) := by rw [← htt]; exact H1.blk.cell 4
  obtain ⟨r1, g1⟩ := int_cell H1.wh HP.out.wl han
  obtain ⟨r2, g2⟩ := int_cell H1.lo HP.out.ll han
  obtain ⟨r3, g3⟩ := int_cell H1.pa HP.out.pl han
  have n1 : ¬ (k.gw = k.gl) := H1.d1
  have n2 : ¬ (k.gw = k.gp) := H1.d2
  have n3 : ¬ (k.gl = k.gp) := H1.d3
  have m1 : ¬ (k.W = k.gw) := H1.w1
  have m2 : ¬ (k.W = k.gl) := H1.w2
  have m3 : ¬ (k.W = k.gp) := H1.w3
  have hai : (a : Int) < (n : Int) := by omega
  have ha0 : (0 : Int) ≤ (a : Int) := by omega
  have H1' := Lib.hid H1
  clear H1 c4 f4 H
  go_region
  have H2 : Hid (WkAt w0 n k vE vJ (DF.start a p s) ((((w1.setCell ⟨k.gw, a, none⟩ (.int .i64 ((s.tm : Int) + 1))).setCell ⟨k.gl, a, none⟩ (.int .i64 ((s.tm : Int) + 1))).setCell ⟨k.gp, a, none⟩ (.int .i64 (p : Int))).drew)) := by
    unfold DF.start Hid
    rw [htt]
    exact (((H1'.out.setW a _).setL a _).setP a _).drew
  generalize (((w1.setCell ⟨k.gw, a, none⟩ (.int .i64 ((s.tm : Int) + 1))).setCell ⟨k.gl, a, none⟩ (.int .i64 ((s.tm : Int) + 1))).setCell ⟨k.gp, a, none⟩ (.int .i64 (p : Int))).drew = w2 at H2 ⊢
  clear H1' b1 b2 b3 b4 r1 r2 r3 g1 g2 g3 htt n1 n2 n3 m1 m2 m3 hwt
  have b0 : w2.cell? ⟨k.W, 0, none⟩ = some (.slice (some ⟨Gb, 0, none⟩) n cb) := by rw [← HK.out]; exact H2.out.blk.cell 0
  obtain ⟨A, c, hrow0, hA, hmx⟩ := HB.out.row a han
  have hGS : ¬ k.S Gb := fun q => by have := hS _ q; have := hI.1; have := HB.out.lt; omega
  have hrow := (H2.out.chg.cell (p := ⟨Gb, a, none⟩) HB.out.lt hGS).trans hrow0
  have HNS : Hid (∀ ad : Addr, A = some ad → ad.block < w0.heap.size → ¬ k.S ad.block) := fun ad h1 h2 q => by have := hS _ q; have := hI.2 a han A _ _ hrow0 ad h1; omega
  clear hrow0 hGS hI hS
  obtain ⟨m, hm⟩ : ∃ m, m = (N a).length := ⟨_, rfl⟩
  rw [← hm] at hrow hmx
  have HA : Hid (IntsAt w0 A ((N a).map fun (x : Nat) => (x : Int))) := hA
  have HM := Lib.hid hm
  clear hA hm
  go_wp2
  go_loopw [54, 8, 9] (fun vi vk vj wl => ∃ i : Nat, i ≤ m ∧ vi = .int .i64 i ∧ vk = .int .i64 ((DF.qa N p f a fr s i).2.1 : Nat) ∧ vj = .bool (DF.qa N p f a fr s i).2.2 ∧ Hid (∃ vE vJ, WkAt w0 n k vE vJ (DF.qa N p f a fr s i).1 wl)) (fun vi _ _ _ => m - (intOf vi).toNat)
  case atStart => exact ⟨0, by omega, rfl, by rw [DF.qa_zero]; rfl, by rw [DF.qa_zero], _, _, by rw [DF.qa_zero]; exact H2.out⟩
  case round =>
    obtain ⟨i, hi, rfl, rfl, rfl, hR⟩ := hrel
    obtain ⟨q, hq⟩ : ∃ q, q = DF.qa N p f a fr s i := ⟨_, rfl⟩
    have hat := HQ.out i
    rw [← hq] at hat hR ⊢
    obtain ⟨hok, hbd, hkids, hpre⟩ := hat
    obtain ⟨s1, kc, jb⟩ := q
    simp only at hok hbd hkids hpre hR ⊢
    have HQE := Lib.hid hq
    have HOK := Lib.hid hok
    have HBD := Lib.hid hbd
    have HPRE := Lib.hid hpre
    obtain ⟨vE1, vJ1, hW⟩ := hR.out
    have H3 := Lib.hid hW
    clear hq hok hbd hpre hW hR H2
    by_cases him : i < m
    · have him' : (i : Int) < (m : Int) := by omega
      have hi0 : (0 : Int) ≤ (i : Int) := by omega
      obtain ⟨b, hb⟩ : ∃ b, (N a)[i]? = some b := ⟨_, List.getElem?_eq_getElem (by rw [← HM.out]; exact him)⟩
      have hbm := (HN.out a han b).1 (List.mem_of_getElem? hb)
      obtain ⟨hbn, hadj⟩ := hbm
      have hne : a ≠ b := by rintro rfl; exact HNL.out _ hadj
      have hkc : kc ≤ 400 := by omega
      have hed : s1.ed.length ≤ 60 := by have := HBD.out.ed; have := HBD.out.un; omega
      have HCC : Hid (b ≠ fr → ¬ 0 < PD.g s1.wh b → Calls Tryd.prog 59 #[.pointer (some ⟨k.W, 0, none⟩), .int .i64 (b : Int), .int .i64 (a : Int), .int .i64 (p : Int)] wr (WkPost w0 n k (DF.visit N p f b a s1)) ∧ DF.Ok n (DF.visit N p f b a s1) ∧ (DF.visit N p f b a s1).ed.length + 1 ≤ 60) := fun _ hv => by
        obtain ⟨hp1, hp2⟩ := HPRE.out b hadj hv
        have hbd2 := HVB.out f b a (ke + 1) (kj + 1) s1 hp1 hp2 HBD.out
        exact ⟨HIH.out b a (ke + 1) (kj + 1) s1 vE1 vJ1 wr hp1 hp2 HBD.out H3.out, HVP.out f b a s1 hp1 hp2, by have := hbd2.ed; have := hbd2.un; omega⟩
      obtain ⟨bs, off, rfl, hcb⟩ : ∃ bs off, A = some ⟨bs, off, none⟩ ∧ wr.cell? ⟨bs, off + i, none⟩ = some (.int .i64 (b : Int)) := by
        rcases HA.out with h0 | ⟨bs, off, rfl, hlt, hc⟩
        · have := congrArg List.length h0
          simp only [List.length_map, List.length_nil] at this
          have := HM.out
          omega
        · exact ⟨bs, off, rfl, (H3.out.chg.cell (p := ⟨bs, off + i, none⟩) hlt (HNS.out ⟨bs, off, none⟩ rfl hlt)).trans (hc i _ (by rw [List.getElem?_map, hb]; rfl))⟩
      have HS : Hid (DF.qa N p f a fr s (i + 1) = DF.kid (fun b s => DF.visit N p f b a s) a fr (s1, kc, jb) b) := by rw [Hid, HQE.out]; exact DF.qa_succ hb
      clear hb hadj
      go_upto_block 1 with fail
      refine wkBlk_any HS.out han hbn hn hne hkc him hcb H3 HOK hed HCC _ _ ?_
      intro v55 v56 v57 v58 v59 v60 v61 v62 v63 v64 v65 v66 v67 v68 v69 v70 v71 v72 v73 v74 v75 v76 v77 v78 v79 v80 v81 v82 v83 v84 v85 v86 v87 v88 v89 v90 v91 v92 v93 v94 v95 v96 v97 v98 v99 v100 v101 v102 v103 v104 v105 v106 v107 v108 v109 v110 v111 v112 v113 v114 v115 v116 v117 v118 v119 v120 v121 v122 v123 v124 v125 v126 v127 v128 v129 v130 v131 v132 v133 v134 v135 v136 v137 v138 v139 v140 v141 v142 v143 v144 v145 v146 v147 v148 v149 v150 v151 v152 v153 v154 v155 v156 v157 v158 v159 v160 v161 v162 v163 v164 v165 v166 vE' vJ' w4 hw4
      have H4 := Lib.hid hw4
      clear hw4 H3 hcb HCC HS
      go_wp2
      go_roundw
      case rel => exact ⟨i + 1, by omega, by go_num, rfl, rfl, _, _, H4.out⟩
      case measure => simp [intOf]; omega
    · have e : i = m := by omega
      subst e
      have HF : Hid (DF.visit N p (f + 1) a fr s = DF.fin a fr (s1, kc, jb)) := by rw [Hid, DF.qa_all, ← HM.out, HQE.out]
      have hjo : s1.jo.length ≤ 60 := by have := HBD.out.jo; have := HBD.out.un; omega
      have hed : s1.ed.length ≤ 60 := by have := HBD.out.ed; have := HBD.out.un; omega
      by_cases ef : fr = a
      · have e1 : ((fr : Int) == (a : Int)) = true := by simp; omega
        have e2 : ((fr : Int) != (a : Int)) = false := by simp; omega
        by_cases hk1 : 1 < kc
        · have e3 : decide ((1 : Int) < (kc : Int)) = true := by simp; omega
          have HG : Hid (DF.fin a fr (s1, kc, jb) = { s1 with jo := s1.jo ++ [a] }) := by unfold Hid DF.fin; rw [if_pos (.inr ⟨ef, hk1⟩)]
          subst ef
          go_upto_region 17 with fail
          refine wk17_any (jb := false) han han hn H3 HOK hed hjo _ ?_
          intro v183 v184 v185 v186 v187 v188 v189 v190 v191 v192 vJ' w4 hw4
          have HZ : Hid (WkPost w0 n k (DF.visit N p (f + 1) fr fr s) (.returned (.tuple #[])) w4) := ⟨rfl, _, _, by rw [HF.out, HG.out]; exact hw4⟩
          clear hw4
          go_wp2
          go_end0
          exact HZ.out
        · have e3 : decide ((1 : Int) < (kc : Int)) = false := by simp; omega
          have HG : Hid (DF.fin a fr (s1, kc, jb) = s1) := by unfold Hid DF.fin; rw [if_neg (by simp only; omega)]
          have HZ : Hid (WkPost w0 n k (DF.visit N p (f + 1) a fr s) (.returned (.tuple #[])) wr) := ⟨rfl, _, _, by rw [HF.out, HG.out]; exact H3.out⟩
          subst ef
          go_wp2
          go_end0
          exact HZ.out
      · have e1 : ((fr : Int) == (a : Int)) = false := by simp; omega
        have e2 : ((fr : Int) != (a : Int)) = true := by simp; omega
        cases jb
        · have HG : Hid (DF.fin a fr (s1, kc, false) = s1) := by unfold Hid DF.fin; rw [if_neg (by simp [ef])]
          have HZ : Hid (WkPost w0 n k (DF.visit N p (f + 1) a fr s) (.returned (.tuple #[])) wr) := ⟨rfl, _, _, by rw [HF.out, HG.out]; exact H3.out⟩
          go_wp2
          go_end0
          exact HZ.out
        · have HG : Hid (DF.fin a fr (s1, kc, true) = { s1 with jo := s1.jo ++ [a] }) := by unfold Hid DF.fin; rw [if_pos (.inl ⟨ef, rfl⟩)]
          go_upto_region 17 with fail
          refine wk17_any (jb := false) han han hn H3 HOK hed hjo _ ?_
          intro v183 v184 v185 v186 v187 v188 v189 v190 v191 v192 vJ' w4 hw4
          have HZ : Hid (WkPost w0 n k (DF.visit N p (f + 1) a fr s) (.returned (.tuple #[])) w4) := ⟨rfl, _, _, by rw [HF.out, HG.out]; exact hw4⟩
          clear hw4
          go_wp2
          go_end0
          exact HZ.out
/-- The walker's walk does as its model. -/
theorem walk_any (w0 : World) (n Gb cb : Nat) (l : List AK.Ed) (N : Nat → List Nat) (k : Wkr) (hk : k.vB = .slice (some ⟨Gb, 0, none⟩) n cb) (hB : BesAt w0 Gb n N) (B : Nat) (hI : BesIn B w0 Gb n) (hS : ∀ j, k.S j → j < B ∨ w0.heap.size ≤ j) (hN : DF.Bes n l N) (hl : ∀ u, ¬ PD.adj l u u) (hin : ∀ u v, PD.adj l u v → v < n) (hn : n ≤ 60) (p : Nat) : ∀ (f a fr ke kj : Nat) (s : DF.Wk) (vE vJ : Value) (wr : World), DF.Pre n l a fr s → DF.unv n s ≤ f → DF.Bd n ke kj s → WkAt w0 n k vE vJ s wr →
      Calls Tryd.prog 59 #[.pointer (some ⟨k.W, 0, none⟩), .int .i64 (a : Int), .int .i64 (fr : Int), .int .i64 (p : Int)] wr (WkPost w0 n k (DF.visit N p f a fr s))
  | 0, a, fr, ke, kj, s, vE, vJ, wr, hP, hf, hb, h => by
    have := (DF.begun (p := p) hP hl).fewer hP
    omega
  | f + 1, a, fr, ke, kj, s, vE, vJ, wr, hP, hf, hb, h => visit_any w0 n Gb cb l N k hk hB B hI hS hN hl hin hn p f (walk_any w0 n Gb cb l N k hk hB B hI hS hN hl hin hn p f) a fr ke kj s vE vJ wr hP hf hb h
end Go.Proofs.YtakjakglkfhaaaaDoor

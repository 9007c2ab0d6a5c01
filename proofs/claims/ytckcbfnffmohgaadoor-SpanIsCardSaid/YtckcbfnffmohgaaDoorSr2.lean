/-
  Walk of the references' SpanOf. Conditions: the edges lie in memory as 'HvAt' says, and may be.
-/
import Derived.Test.YtckcbfnffmohgaaDoorSr1
import Derived.Test.YtckcbfnffmohgaaDoorPsh
import Derived.StillTailTactics
import Derived.Deep.RegionHeld3
namespace Go.Proofs.YtckcbfnffmohgaaDoor
open Go Go.RowKit Go.Lib NK PT
set_option linter.unusedVariables false

theorem getD_at {L : List He} {j : Nat} {x : He} (h : L[j]? = some x) : (L.getD j ((0, 0), 0)).1 = x.1 := by rw [List.getD_eq_getElem?_getD, h]; rfl
/-- What a span takes of the first i. -/
noncomputable def spanUp (L : List He) (i : Nat) : List Int := ((List.range i).filter (tkB L)).map fun j : Nat => (j : Int)
theorem spanUp_yes {L : List He} {i : Nat} (h : Tk L i) : spanUp L (i + 1) = spanUp L i ++ [(i : Int)] := by
  unfold spanUp
  rw [List.range_succ, List.filter_append, List.map_append, List.filter_cons_of_pos (tkB_iff.2 h)]; rfl
theorem spanUp_no {L : List He} {i : Nat} (h : ¬ Tk L i) : spanUp L (i + 1) = spanUp L i := by
  unfold spanUp
  rw [List.range_succ, List.filter_append, List.map_append, List.filter_cons_of_neg (by rw [tkB_no.2 h]; simp)]; simp
theorem spanUp_len (L : List He) (i : Nat) : (spanUp L i).length ≤ i := by
  unfold spanUp
  rw [List.length_map]
  exact Nat.le_trans (List.length_filter_le _ _) (by simp)
theorem nrow_cell {w : World} {g c n x v : Nat} {p : List Nat} (h : NRow w (.slice (some ⟨g, 0, none⟩) n c) n p) (hp : p[x]? = some v) (hx : x < n) : w.cell? ⟨g, x, none⟩ = some (.int .i64 (v : Nat)) := by
  unfold NRow at h
  exact (World.ownsRow.cellAt h x (by omega)).trans (natv_get hp)

theorem fst1 {A B : Prop} (h : A ∧ B) : A := h.1
/-- One edge more of those that are wanted. -/
theorem eds_push {wo wr W wa : World} {L : List He} {P : Nat → Bool} {j q g9 c9 c7 u v : Nat} {A7 : Option Addr} (h : GrE wo (edsUp L P j) (.slice A7 q c7) wr) (hq : (edsUp L P j).length = q) (hP : P j = true) (hg : (L.getD j ((0, 0), 0)).1 = ((u : Int), (v : Int))) (hW : Ext wr W) (ho : wa.ownsRow 0 34 2 (.slice (some ⟨g9, 0, none⟩) (q + 1) c9) (q + 1) (rowsOf edC (edsUp L P j) ++ [.int .i64 u, .int .i64 v])) (hc : Chg (fun k => (Value.slice A7 q c7).ownBlock = some k) W wa) (hat : (Value.slice A7 q c7).ownBlock = some g9 ∨ g9 = W.heap.size) :
    GrE wo (edsUp L P (j + 1)) (.slice (some ⟨g9, 0, none⟩) (q + 1) c9) wa := by
  subst hq
  rw [edsUp_succ, if_pos hP, hg]
  exact (h.moved hW).push (x := ((u : Int), (v : Int))) ho hc hat
theorem eds_skip {wo wr : World} {L : List He} {P : Nat → Bool} {j : Nat} {v : Value} (h : GrE wo (edsUp L P j) v wr) (hP : P j = false) : GrE wo (edsUp L P (j + 1)) v wr := by
  rw [edsUp_succ, if_neg (by rw [hP]; simp), List.append_nil]
  exact h
def SoPost (w : World) (L : List He) (e : Ending) (w' : World) : Prop := ∃ R c, e = .returned (.slice R (spanH L).length c) ∧ IntsAt w' R (spanH L) ∧ Ext w w'
set_option maxHeartbeats 4000000 in
set_option maxRecDepth 100000 in
theorem spanOf_any (w : World) (n : Nat) (A : Option Addr) (len c : Nat) (L : List He) (hl : L.length = len) (hok : OkH n L) (h : HvAt w A L) :
    Calls Tryd.prog 7 #[.int .i64 n, .slice A len c] w (SoPost w L) := by
  have H := Lib.hid h
  have HL := Lib.hid hl
  have HO := Lib.hid hok
  have hlen : len ≤ 200 := by have := hok.len; omega
  have hn : 1 ≤ n ∧ n ≤ 60 := by have := hok.n1; have := hok.n2; omega
  clear h hl hok
  go_enter Tryd.func7, Tryd.ntmps7
  go_wp2
  go_loopw [5, 6] (fun v5 v6 wr => ∃ (i : Nat), i ≤ len ∧ v6 = .int .i64 i ∧ Hid (GrI w (spanUp L i) v5 wr)) (fun _ v6 _ => len - (intOf v6).toNat)
  case atStart => exact ⟨0, Nat.zero_le _, rfl, GrI.nil (Ext.refl _)⟩
  case round =>
    obtain ⟨i, hi, rfl, HR⟩ := hrel
    rename_i u5
    rename World => wo
    by_cases c1 : i < len
    · have hiz : (i : Int) < (len : Int) := by omega
      have hig : (0 : Int) ≤ (i : Int) := by omega
      obtain ⟨bs, off, x, hA, hbs, hx, _, _, q3⟩ := (H.out.ext HR.out.ext).at_ (i := i) (by rw [HL.out]; exact c1)
      have hxo := HO.out.ok x (List.mem_of_getElem? hx)
      have hw3 := wtH_at hx
      have hnd := ndH_at hx
      obtain ⟨⟨x1, x2⟩, x3⟩ := x
      simp only at q3 hxo hw3 hnd
      obtain ⟨a, rfl⟩ := Int.eq_ofNat_of_zero_le hxo.1
      obtain ⟨b, rfl⟩ := Int.eq_ofNat_of_zero_le (show 0 ≤ x2 by omega)
      have ha : a < n := by omega
      have hb : b < n := by omega
      simp only [Int.toNat_natCast] at hnd
      have HX := Lib.hid hx
      have HW3 := Lib.hid hw3
      have HND := Lib.hid hnd
      have HV : Hid (HvAt wo A L) := H.out.ext HR.out.ext
      clear hx hxo hw3 hnd q3
      go_wp2
      go_loopw [7, 8] (fun v7 v8 wx => ∃ (j : Nat), j ≤ len ∧ v8 = .int .i64 j ∧ Hid (GrE wo (edsUp L (ahB L i) j) v7 wx)) (fun _ v8 _ => len - (intOf v8).toNat)
      case atStart => exact ⟨0, Nat.zero_le _, rfl, GrE.nil (Ext.refl _)⟩
      case round =>
        obtain ⟨j, hj, rfl, HG0⟩ := hrel
        rename_i u7
        by_cases c2 : j < len
        · have hjz : (j : Int) < (len : Int) := by omega
          have hjg : (0 : Int) ≤ (j : Int) := by omega
          obtain ⟨bs', off', y, hA', hbs', hy, p1, p2, p3⟩ := (HV.out.ext HG0.out.ext).at_ (i := j) (by rw [HL.out]; exact c2)
          have hee : bs' = bs ∧ off' = off := by rw [hA] at hA'; simp only [Option.some.injEq, Addr.mk.injEq, and_true] at hA'; exact ⟨hA'.1.symm, hA'.2.symm⟩
          obtain ⟨rfl, rfl⟩ := hee
          subst hA
          have hyo := HO.out.ok y (List.mem_of_getElem? hy)
          have hwy := wtH_at hy
          have hgy := getD_at hy
          have q3 := ((HV.out.ext HG0.out.ext).here HX.out).2.2.2
          obtain ⟨⟨y1, y2⟩, y3⟩ := y
          simp only at p1 p2 p3 hyo hwy hgy q3
          obtain ⟨u, rfl⟩ := Int.eq_ofNat_of_zero_le hyo.1
          obtain ⟨v, rfl⟩ := Int.eq_ofNat_of_zero_le (show 0 ≤ y2 by omega)
          have HC : Hid (∀ W, Ext wo W → Ext wo W ∧ W.cell? ⟨bs', off' + j * 3, none⟩ = some (.int .i64 (u : Nat)) ∧ W.cell? ⟨bs', off' + j * 3 + 1, none⟩ = some (.int .i64 (v : Nat))) := fun W hW => ⟨hW, ((HV.out.ext hW).here hy).2.1, ((HV.out.ext hW).here hy).2.2.1⟩
          have HAB : Hid (ahB L i j = true ↔ (y3 < x3 ∨ (y3 = x3 ∧ j < i))) := by
            unfold Hid ahB
            rw [hwy, HW3.out]
            simp
          have HGY := Lib.hid hgy
          have hE0 : Ext wo wr := HG0.out.ext
          clear hy hyo hwy hgy hbs' hA'
          obtain ⟨A7, c7, rfl, _, _, _⟩ := HG0.out.eds
          obtain ⟨q, hq⟩ : ∃ q, (edsUp L (ahB L i) j).length = q := ⟨_, rfl⟩
          have hqj : q ≤ 200 := by rw [← hq]; have := edsUp_len L (ahB L i) j; omega
          rw [hq] at HG0 ⊢
          have HQ := Lib.hid hq
          have HRW : Hid (∀ {V W : World}, GrE wo (edsUp L (ahB L i) j) (.slice A7 q c7) V → Ext V W → W.ownsRow 0 34 2 (.slice A7 q c7) q (rowsOf edC (edsUp L (ahB L i) j))) := fun hG hW => by
            have := (hG.moved hW).row
            unfold DRow at this
            rwa [hq] at this
          clear hq
          by_cases d1 : y3 < x3
          · have e1 : decide (y3 < x3) = true := decide_eq_true d1
            have HP : Hid (ahB L i j = true) := HAB.out.2 (.inl d1)
            clear d1
            go_wp2_with fail
            go_quiet (fail)
            have hxq : Ext wr (wr.drewN nq) := Ext.drewN _ _
            have HG2 := Lib.hid (HG0.out.moved hxq)
            have hE2 : Ext wo (wr.drewN nq) := Ext.trans hE0 hxq
            clear hxq p1 p2 p3 q3 hE0 HG0 HAB
            generalize wr.drewN nq = w2 at HG2 hE2 ⊢
            have r1 := (HC.out _ hE2).2.1
            have r2 := (HC.out _ hE2).2.2
            go_wp2_with fail
            go_region_held3 (fun W => Ext wo W ∧ W.cell? ⟨bs', off' + j * 3, none⟩ = some (.int .i64 (u : Nat)) ∧ W.cell? ⟨bs', off' + j * 3 + 1, none⟩ = some (.int .i64 (v : Nat)))
              (exact HC.out _ (by first | assumption | exact Ext.trans hE2 (Ext.drew _) | exact fst1 (by assumption) | exact Ext.trans (fst1 (by assumption)) (by assumption) | exact Ext.trans (fst1 (by assumption)) (Ext.alloc _ _)))
              (first
                | (refine step_pushS _ (by rfl) (.tmp 51) (.tmp 65) 47 (by rfl) 34 (.agg #[.int .i64 0, .int .i64 0]) 2 16 Tryd.underlying47 infoEdge (by rfl) (by decide) (.slice A7 q c7) q (rowsOf edC (edsUp L (ahB L i) j)) (by rfl) (HRW.out HG2.out (Ext.trans (Ext.alloc _ _) (Ext.drew _))) ⟨by omega, by omega⟩ [.int .i64 u, .int .i64 v] w2.heap.size (by rfl) (by rfl) (news_cells rfl [.int .i64 u, .int .i64 v] _) (by simp [Value.oneCell']) ?_; intro g9 c9 wa ho9 hc9 hg9; have HA := Lib.hid (eds_push HG2.out HQ.out HP.out HGY.out (Ext.trans (Ext.alloc _ _) (Ext.drew _)) ho9 hc9 hg9); have hFa : Ext wo wa := HA.out.ext; clear ho9 hc9 hg9)
                | fail)
            rename_i hHeld
            clear hHeld HC hE2 r1 r2 HG2 HRW HP
            go_wp2
            go_roundw
            case rel => exact ⟨j + 1, by omega, by go_num, HA.out⟩
            case measure => simp [intOf]; omega
          have e1 : decide (y3 < x3) = false := decide_eq_false d1
          by_cases d2 : y3 = x3
          · have e2 : (y3 == x3) = true := by rw [beq_iff_eq]; exact d2
            by_cases d3 : j < i
            · have e3 : decide (j < i) = true := decide_eq_true d3
              have e4 : decide ((j : Int) < (i : Int)) = true := decide_eq_true (by omega)
              have HP : Hid (ahB L i j = true) := HAB.out.2 (.inr ⟨d2, d3⟩)
              clear d1 d2 d3
              go_wp2_with fail
              go_quiet (fail)
              have hxq : Ext wr (wr.drewN nq) := Ext.drewN _ _
              have HG2 := Lib.hid (HG0.out.moved hxq)
              have hE2 : Ext wo (wr.drewN nq) := Ext.trans hE0 hxq
              clear hxq p1 p2 p3 q3 hE0 HG0 HAB
              generalize wr.drewN nq = w2 at HG2 hE2 ⊢
              have r1 := (HC.out _ hE2).2.1
              have r2 := (HC.out _ hE2).2.2
              go_wp2_with fail
              go_region_held3 (fun W => Ext wo W ∧ W.cell? ⟨bs', off' + j * 3, none⟩ = some (.int .i64 (u : Nat)) ∧ W.cell? ⟨bs', off' + j * 3 + 1, none⟩ = some (.int .i64 (v : Nat)))
                (exact HC.out _ (by first | assumption | exact Ext.trans hE2 (Ext.drew _) | exact fst1 (by assumption) | exact Ext.trans (fst1 (by assumption)) (by assumption) | exact Ext.trans (fst1 (by assumption)) (Ext.alloc _ _)))
                (first
                  | (refine step_pushS _ (by rfl) (.tmp 51) (.tmp 65) 47 (by rfl) 34 (.agg #[.int .i64 0, .int .i64 0]) 2 16 Tryd.underlying47 infoEdge (by rfl) (by decide) (.slice A7 q c7) q (rowsOf edC (edsUp L (ahB L i) j)) (by rfl) (HRW.out HG2.out (Ext.trans (Ext.alloc _ _) (Ext.drew _))) ⟨by omega, by omega⟩ [.int .i64 u, .int .i64 v] w2.heap.size (by rfl) (by rfl) (news_cells rfl [.int .i64 u, .int .i64 v] _) (by simp [Value.oneCell']) ?_; intro g9 c9 wa ho9 hc9 hg9; have HA := Lib.hid (eds_push HG2.out HQ.out HP.out HGY.out (Ext.trans (Ext.alloc _ _) (Ext.drew _)) ho9 hc9 hg9); have hFa : Ext wo wa := HA.out.ext; clear ho9 hc9 hg9)
                  | fail)
              rename_i hHeld
              clear hHeld HC hE2 r1 r2 HG2 HRW HP
              go_wp2
              go_roundw
              case rel => exact ⟨j + 1, by omega, by go_num, HA.out⟩
              case measure => simp [intOf]; omega
            · have e3 : decide (j < i) = false := decide_eq_false d3
              have e4 : decide ((j : Int) < (i : Int)) = false := decide_eq_false (by omega)
              have HP : Hid (ahB L i j = false) := by
                cases h : ahB L i j with
                | false => rfl
                | true => exact absurd (HAB.out.1 h) (by omega)
              clear d1 d2 d3
              go_wp2_with fail
              go_quiet (fail)
              have HG2 := Lib.hid (eds_skip (HG0.out.moved (Ext.drewN wr nq)) HP.out)
              clear p1 p2 p3 q3 hE0 HG0 HAB
              generalize wr.drewN nq = w2 at HG2 ⊢
              go_wp2
              go_roundw
              case rel => exact ⟨j + 1, by omega, by go_num, HG2.out⟩
              case measure => simp [intOf]; omega
          · have e2 : (y3 == x3) = false := by rw [beq_eq_false_iff_ne]; exact d2
            have HP : Hid (ahB L i j = false) := by
              cases h : ahB L i j with
              | false => rfl
              | true => exact absurd (HAB.out.1 h) (by omega)
            clear d1 d2
            go_wp2_with fail
            go_quiet (fail)
            have HG2 := Lib.hid (eds_skip (HG0.out.moved (Ext.drewN wr nq)) HP.out)
            clear p1 p2 p3 q3 hE0 HG0 HAB
            generalize wr.drewN nq = w2 at HG2 ⊢
            go_wp2
            go_roundw
            case rel => exact ⟨j + 1, by omega, by go_num, HG2.out⟩
            case measure => simp [intOf]; omega
        · obtain rfl : j = len := by omega
          have hjz : ¬ (j : Int) < (j : Int) := by omega
          obtain ⟨A7, c7, rfl, hE7, _, _⟩ := HG0.out.eds
          obtain ⟨q, hq⟩ : ∃ q, (edsUp L (ahB L i) j).length = q := ⟨_, rfl⟩
          have hqj : q ≤ 200 := by rw [← hq]; have := edsUp_len L (ahB L i) j; omega
          have hinn : Inn n (edsUp L (ahB L i) j) := by rw [← HL.out]; exact edsUp_inn HO.out _
          have HPA := Lib.hid (parts_any wr A7 n q c7 (edsUp L (ahB L i) j) hq hn.1 (by omega) (by omega) hE7 hinn)
          rw [hq] at HG0 ⊢
          have hE0 : Ext wo wr := HG0.out.ext
          have hcn : ∀ x y, UF.Con (prs (edsUp L (ahB L i) j)) x y ↔ UF.Con (ahH L i) x y := fun x y => by rw [← HL.out]; exact con_ah
          have HCN := Lib.hid hcn
          clear hq hinn hE7 hcn HG0
          go_wp2_with fail
          refine HPA.out.mono ?_
          rintro e w3 ⟨p, gp, cp, rfl, hrow, hip, hb3, _⟩
          obtain ⟨pa, hpa⟩ : ∃ z, p[a]? = some z := ⟨_, List.getElem?_eq_getElem (by rw [hip.len]; exact ha)⟩
          obtain ⟨pb, hpb⟩ : ∃ z, p[b]? = some z := ⟨_, List.getElem?_eq_getElem (by rw [hip.len]; exact hb)⟩
          have s1 := nrow_cell hrow hpa ha
          have s2 := nrow_cell hrow hpb hb
          have hrel := (hip.rel hpa hpb).trans (HCN.out a b)
          have HTK : Hid (NK.Tk L i ↔ pa ≠ pb) := by
            unfold Hid NK.Tk
            rw [HND.out]
            exact (not_congr hrel).symm
          have hE3 : Ext wo w3 := Ext.trans hE0 hb3
          obtain ⟨z1, z2, _⟩ := ((hA ▸ HV.out.ext hE3 : HvAt w3 (some ⟨bs, off, none⟩) L).here HX.out).2
          simp only at z1 z2
          subst hA
          have zab : (a : Int) < (n : Int) := by omega
          have zbb : (b : Int) < (n : Int) := by omega
          have HRO : Hid (GrI w (spanUp L i) u5 w3) := HR.out.moved hE3
          clear hrow hip hb3 hpa hpb hrel HCN HPA hE0 hE3 HR HV
          by_cases ct : NK.Tk L i
          · have hne := HTK.out.1 ct
            have e1 : ((pa : Int) == (pb : Int)) = false := by rw [beq_eq_false_iff_ne]; omega
            have e2 : (pa == pb) = false := by rw [beq_eq_false_iff_ne]; exact hne
            have e3 : (pa != pb) = true := by rw [bne_iff_ne]; exact hne
            have e4 : ((pa : Int) != (pb : Int)) = true := by rw [bne, e1]; rfl
            have hS := spanUp_yes ct
            have HS := Lib.hid hS
            have hlu := spanUp_len L i
            clear ct hne HTK hS
            go_wp2_with fail
            go_quiet (fail)
            have HR4 : Hid (GrI w (spanUp L i) u5 (w3.drewN nq)) := HRO.out.moved (Ext.drewN _ _)
            clear HRO s1 s2 z1 z2
            generalize w3.drewN nq = w4 at HR4 ⊢
            obtain ⟨A5, c5, hA5, _⟩ := HR4.out.ints
            subst hA5
            obtain ⟨m5, hm5⟩ : ∃ m5, (spanUp L i).length = m5 := ⟨_, rfl⟩
            have HRW : Hid (w4.ownsRow 0 3 1 (.slice A5 m5 c5) m5 (intsV (spanUp L i))) := by
              have := HR4.out.row
              rwa [hm5] at this
            rw [hm5] at HR4 hlu ⊢
            have HM5 := Lib.hid hm5
            clear hm5
            go_wp2_with (at_builtin; refine wpList_push _ rfl (.tmp 89) (.tmp 91) 31 rfl 3 (.int .i64 0) 8 Tryd.underlying31 infoI rfl (.slice A5 m5 c5) m5 (intsV (spanUp L i)) rfl (own_chg HRW.out ((Chg.refl (fun _ => False) w4).alloc _) (fun _ _ hf => hf)) ⟨by omega, by omega⟩ (.int .i64 i) w4.heap.size rfl (cell_new1 rfl _ _) rfl ?_; intro g7 c7' w7 ho7 hc7 hat7 _; have HO7 := Lib.hid ho7; have HC7 := Lib.hid hc7; have HT7 := Lib.hid hat7; clear ho7 hc7 hat7)
            have HN : Hid (GrI w (spanUp L (i + 1)) (.slice (some ⟨g7, 0, none⟩) (m5 + 1) c7') w7) := by
              have h1 := HR4.out.moved (Ext.alloc w4 (.cells #[.int .i64 i] 3))
              have h2 := HO7.out
              have h3 := HC7.out
              have h4 := HT7.out
              rw [HS.out]
              have hm5 := HM5.out
              subst hm5
              exact h1.push h2 h3 h4
            clear HR4 HRW HO7 HC7 HT7
            go_wp2
            go_roundw
            case rel => exact ⟨i + 1, by omega, by go_num, HN.out⟩
            case measure => simp [intOf]; omega
          · have hne : pa = pb := Classical.not_not.1 (fun q => ct (HTK.out.2 q))
            have hS := spanUp_no ct
            have HS := Lib.hid hS
            clear ct HTK hS
            subst hne
            go_wp2_with fail
            go_quiet (fail)
            have HR4 : Hid (GrI w (spanUp L (i + 1)) u5 (w3.drewN nq)) := by rw [HS.out]; exact HRO.out.moved (Ext.drewN _ _)
            clear HRO s1 s2 z1 z2
            generalize w3.drewN nq = w4 at HR4 ⊢
            go_wp2
            go_roundw
            case rel => exact ⟨i + 1, by omega, by go_num, HR4.out⟩
            case measure => simp [intOf]; omega
    · obtain rfl : i = len := by omega
      have hiz : ¬ (i : Int) < (i : Int) := by omega
      have HP : Hid (SoPost w L (.returned u5) wo) := by
        have e : spanUp L i = spanH L := by unfold spanUp spanH; rw [HL.out]
        have hR := HR.out
        rw [e] at hR
        obtain ⟨R, cr, rfl, hI, _⟩ := hR.ints
        exact ⟨R, cr, rfl, hI, hR.ext⟩
      clear HR
      go_wp2
      go_ret
      exact HP.out
end Go.Proofs.YtckcbfnffmohgaaDoor

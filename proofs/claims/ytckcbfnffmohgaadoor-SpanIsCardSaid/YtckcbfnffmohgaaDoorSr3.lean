/-
  Walk of the references' NeckOf. Conditions: the edges lie in memory as 'HvAt' says, and may be; the nodes are nodes.
-/
import Derived.Test.YtckcbfnffmohgaaDoorSr2
import Derived.Test.YtckcbfnffmohgaaDoorSn6
namespace Go.Proofs.YtckcbfnffmohgaaDoor
open Go Go.RowKit Go.Lib NK PT
set_option linter.unusedVariables false

/-- The heaviest of some. -/
theorem top_of {L : List He} {P : Nat → Prop} : ∀ k, (∃ j : Nat, j < k ∧ P j) → ∃ j : Nat, j < k ∧ P j ∧ ∀ j' : Nat, j' < k → P j' → wtH L j' ≤ wtH L j
  | 0, ⟨j, hj, _⟩ => by omega
  | k + 1, ⟨j, hj, hp⟩ => by
    by_cases c : ∃ j : Nat, j < k ∧ P j
    · obtain ⟨m, h1, h2, h3⟩ := top_of (L := L) k c
      by_cases d : P k ∧ wtH L m < wtH L k
      · refine ⟨k, by omega, d.1, fun j' hj' hp' => ?_⟩
        by_cases e : j' = k
        · rw [e]; exact Int.le_refl _
        · have := h3 j' (by omega) hp'; omega
      · refine ⟨m, by omega, h2, fun j' hj' hp' => ?_⟩
        by_cases e : j' = k
        · rw [e]
          rw [e] at hp'
          have : ¬ wtH L m < wtH L k := fun q => d ⟨hp', q⟩
          omega
        · exact h3 j' (by omega) hp'
    · have e : j = k := by
        by_cases e : j = k
        · exact e
        · exact absurd ⟨j, by omega, hp⟩ c
      subst e
      refine ⟨j, by omega, hp, fun j' hj' hp' => ?_⟩
      by_cases e : j' = j
      · rw [e]; exact Int.le_refl _
      · exact absurd ⟨j', by omega, hp'⟩ c
theorem con_some {es : List (Nat × Nat)} {a b : Nat} (h : a ≠ b) (c : UF.Con es a b) : ∃ p, p ∈ es := by
  cases es with
  | cons p r => exact ⟨p, List.mem_cons_self ..⟩
  | nil =>
    have := UF.Con.ind (f := fun x => x) (fun x y hm => by cases hm) c
    exact absurd this h
theorem lt_top {L : List He} {t : Int} {a b : Nat} (h : a ≠ b) (c : UF.Con (ltH L t) a b) : ∃ j : Nat, j < L.length ∧ wtH L j < t ∧ UF.Con (leH L (wtH L j)) a b := by
  obtain ⟨p, hp⟩ := con_some h c
  obtain ⟨i, h1, h2, _⟩ := mem_ltH.1 hp
  obtain ⟨j, j1, j2, j3⟩ := top_of (L := L) (P := fun j => wtH L j < t) L.length ⟨i, h1, h2⟩
  refine ⟨j, j1, j2, c.mono fun x y hm => ?_⟩
  obtain ⟨m, m1, m2, m3⟩ := mem_ltH.1 hm
  exact .edge (mem_leH.2 ⟨m, m1, j3 m m1 m2, m3⟩)
theorem all_top {L : List He} {a b : Nat} (h : a ≠ b) (c : UF.Con (L.map prH) a b) : ∃ j : Nat, j < L.length ∧ UF.Con (leH L (wtH L j)) a b := by
  obtain ⟨p, hp⟩ := con_some h c
  obtain ⟨i, h1, _⟩ := mem_all.1 hp
  obtain ⟨j, j1, _, j3⟩ := top_of (L := L) (P := fun _ => True) L.length ⟨i, h1, trivial⟩
  refine ⟨j, j1, c.mono fun x y hm => ?_⟩
  obtain ⟨m, m1, m3⟩ := mem_all.1 hm
  exact .edge (mem_leH.2 ⟨m, m1, j3 m m1 trivial, m3⟩)
/-- The best so far. -/
def NkS (L : List He) (a b i : Nat) (best : Int) : Prop :=
  (best = -1 ∧ ∀ j : Nat, j < i → ¬ UF.Con (leH L (wtH L j)) a b) ∨
  (∃ j : Nat, j < L.length ∧ best = wtH L j ∧ UF.Con (leH L best) a b ∧ ∀ j' : Nat, j' < i → UF.Con (leH L (wtH L j')) a b → best ≤ wtH L j')
section
variable {L : List He} {a b i : Nat} {best : Int}
theorem NkS.start : NkS L a b 0 (-1) := .inl ⟨rfl, fun j hj => by omega⟩
theorem NkS.skip (h : NkS L a b i best) (h1 : 0 ≤ best) (h2 : best ≤ wtH L i) : NkS L a b (i + 1) best := by
  rcases h with ⟨h, _⟩ | ⟨j, j1, j2, j3, j4⟩
  · omega
  · refine .inr ⟨j, j1, j2, j3, fun j' hj' c => ?_⟩
    by_cases e : j' = i
    · rw [e]; exact h2
    · exact j4 j' (by omega) c
theorem NkS.keep (h : NkS L a b i best) (hn : ¬ UF.Con (leH L (wtH L i)) a b) : NkS L a b (i + 1) best := by
  rcases h with ⟨h, h2⟩ | ⟨j, j1, j2, j3, j4⟩
  · refine .inl ⟨h, fun j hj => ?_⟩
    by_cases e : j = i
    · rw [e]; exact hn
    · exact h2 j (by omega)
  · refine .inr ⟨j, j1, j2, j3, fun j' hj' c => ?_⟩
    by_cases e : j' = i
    · rw [e] at c; exact absurd c hn
    · exact j4 j' (by omega) c
theorem NkS.set (h : NkS L a b i best) (hw : ∀ j : Nat, 0 ≤ wtH L j) (hi : i < L.length) (hb : best = -1 ∨ wtH L i < best) (hc : UF.Con (leH L (wtH L i)) a b) : NkS L a b (i + 1) (wtH L i) := by
  refine .inr ⟨i, hi, rfl, hc, fun j' hj' c => ?_⟩
  by_cases e : j' = i
  · rw [e]; exact Int.le_refl _
  rcases h with ⟨h, h2⟩ | ⟨j, j1, j2, j3, j4⟩
  · exact absurd c (h2 j' (by omega))
  · have := j4 j' (by omega) c
    rcases hb with q | q
    · have := hw j; omega
    · omega
theorem NkS.none (h : NkS L a b L.length best) (hab : a ≠ b) (hb : best < 0) (hw : ∀ j : Nat, 0 ≤ wtH L j) : best = -1 ∧ ¬ UF.Con (L.map prH) a b := by
  rcases h with ⟨h, h2⟩ | ⟨j, j1, j2, _⟩
  · refine ⟨h, fun c => ?_⟩
    obtain ⟨j, j1, j2⟩ := all_top hab c
    exact h2 j j1 j2
  · have := hw j; omega
theorem NkS.some (h : NkS L a b L.length best) (hab : a ≠ b) (hb : 0 ≤ best) : Nk L a b best := by
  rcases h with ⟨h, _⟩ | ⟨j, j1, j2, j3, j4⟩
  · omega
  · refine ⟨j3, fun c => ?_⟩
    obtain ⟨m, m1, m2, m3⟩ := lt_top hab c
    have := j4 m m1 m3
    omega
end
def NoPost (w : World) (L : List He) (a b : Nat) (e : Ending) (w' : World) : Prop := ∃ (x : Int) (o : Bool), e = .returned (.tuple #[.int .i64 x, .bool o]) ∧ ((a = b ∧ x = 0 ∧ o = true) ∨ (a ≠ b ∧ ¬ UF.Con (L.map prH) a b ∧ x = -1 ∧ o = false) ∨ (a ≠ b ∧ 0 ≤ x ∧ Nk L a b x ∧ o = true)) ∧ Ext w w'
set_option maxHeartbeats 4000000 in
set_option maxRecDepth 100000 in
theorem neckOf_any (w : World) (n : Nat) (A : Option Addr) (len c : Nat) (L : List He) (a b : Nat) (hl : L.length = len) (hok : OkH n L) (h : HvAt w A L) (ha : a < n) (hb : b < n) :
    Calls Tryd.prog 12 #[.int .i64 n, .slice A len c, .int .i64 a, .int .i64 b] w (NoPost w L a b) := by
  have H := Lib.hid h
  have HL := Lib.hid hl
  have HO := Lib.hid hok
  have hlen : len ≤ 200 := by have := hok.len; omega
  have hn : 1 ≤ n ∧ n ≤ 60 := by have := hok.n1; have := hok.n2; omega
  clear h hl hok
  by_cases hab : a = b
  · have e1 : ((a : Int) == (b : Int)) = true := by rw [beq_iff_eq]; omega
    have e2 : (a == b) = true := by rw [beq_iff_eq]; exact hab
    have HAB := Lib.hid hab
    clear hab
    go_enter Tryd.func12, Tryd.ntmps12
    go_wp2
    go_ret2
    exact ⟨0, true, rfl, .inl ⟨HAB.out, rfl, rfl⟩, Ext.refl _⟩
  have e1 : ((a : Int) == (b : Int)) = false := by rw [beq_eq_false_iff_ne]; omega
  have e2 : (a == b) = false := by rw [beq_eq_false_iff_ne]; exact hab
  have HAB := Lib.hid hab
  clear hab
  go_enter Tryd.func12, Tryd.ntmps12
  go_wp2
  go_loopw [10, 11] (fun v10 v11 wr => ∃ (i : Nat) (best : Int), i ≤ len ∧ v10 = .int .i64 best ∧ v11 = .int .i64 i ∧ Hid (NkS L a b i best) ∧ Hid (Ext w wr)) (fun _ v11 _ => len - (intOf v11).toNat)
  case atStart => exact ⟨0, -1, Nat.zero_le _, rfl, rfl, NkS.start, Ext.refl _⟩
  case round =>
    obtain ⟨i, best, hi, rfl, rfl, HS, HR⟩ := hrel
    rename World => wo
    by_cases c1 : i < len
    · have hiz : (i : Int) < (len : Int) := by omega
      have hig : (0 : Int) ≤ (i : Int) := by omega
      obtain ⟨bs, off, x, hA, hbs, hx, _, _, q3⟩ := (H.out.ext HR.out).at_ (i := i) (by rw [HL.out]; exact c1)
      have hxo := HO.out.ok x (List.mem_of_getElem? hx)
      have hw3 := wtH_at hx
      obtain ⟨⟨x1, x2⟩, x3⟩ := x
      simp only at q3 hxo hw3
      have HX := Lib.hid hx
      have HW3 := Lib.hid hw3
      have HV : Hid (HvAt wo A L) := H.out.ext HR.out
      have hx3 : 0 ≤ x3 := by omega
      clear hx hxo hw3
      by_cases d0 : 0 ≤ best ∧ best ≤ x3
      · have g1 : decide (0 ≤ best) = true := decide_eq_true d0.1
        have g2 : decide (best ≤ x3) = true := decide_eq_true d0.2
        have HS2 : Hid (NkS L a b (i + 1) best) := HS.out.skip d0.1 (by rw [HW3.out]; exact d0.2)
        subst hA
        clear d0 HS HV
        go_wp2
        go_roundw
        case rel => exact ⟨i + 1, best, by omega, rfl, by go_num, HS2.out, HR.out⟩
        case measure => simp [intOf]; omega
      · have HBX : Hid (best = -1 ∨ x3 < best) := by
          rcases HS.out with ⟨q, _⟩ | ⟨j, j1, j2, _⟩
          · exact .inl q
          · have := (wtH_in HO.out j).1
            right
            omega
        by_cases d1 : 0 ≤ best
        · have g1 : decide (0 ≤ best) = true := decide_eq_true d1
          have g2 : decide (best ≤ x3) = false := decide_eq_false (fun q => d0 ⟨d1, q⟩)
          subst hA
          clear d0 d1
          go_wp2
          clear g1 g2
          go_loopw [12, 13] (fun v12 v13 wx => ∃ (j : Nat), j ≤ len ∧ v13 = .int .i64 j ∧ Hid (GrE wo (edsUp L (leB L x3) j) v12 wx)) (fun _ v13 _ => len - (intOf v13).toNat)
          case atStart => exact ⟨0, Nat.zero_le _, rfl, GrE.nil (Ext.refl _)⟩
          case round =>
            obtain ⟨j, hj, rfl, HG0⟩ := hrel
            rename_i u7
            by_cases c2 : j < len
            · have hjz : (j : Int) < (len : Int) := by omega
              have hjg : (0 : Int) ≤ (j : Int) := by omega
              obtain ⟨bs', off', y, hA', hbs', hy, p1, p2, p3⟩ := (HV.out.ext HG0.out.ext).at_ (i := j) (by rw [HL.out]; exact c2)
              have hee : bs' = bs ∧ off' = off := by simp only [Option.some.injEq, Addr.mk.injEq, and_true] at hA'; exact ⟨hA'.1.symm, hA'.2.symm⟩
              obtain ⟨rfl, rfl⟩ := hee
              have hyo := HO.out.ok y (List.mem_of_getElem? hy)
              have hwy := wtH_at hy
              have hgy := getD_at hy
              have q3' := ((HV.out.ext HG0.out.ext).here HX.out).2.2.2
              obtain ⟨⟨y1, y2⟩, y3⟩ := y
              simp only at p1 p2 p3 hyo hwy hgy q3'
              obtain ⟨u, rfl⟩ := Int.eq_ofNat_of_zero_le hyo.1
              obtain ⟨v, rfl⟩ := Int.eq_ofNat_of_zero_le (show 0 ≤ y2 by omega)
              have HC : Hid (∀ W, Ext wo W → Ext wo W ∧ W.cell? ⟨bs', off' + j * 3, none⟩ = some (.int .i64 (u : Nat)) ∧ W.cell? ⟨bs', off' + j * 3 + 1, none⟩ = some (.int .i64 (v : Nat))) := fun W hW => ⟨hW, ((HV.out.ext hW).here hy).2.1, ((HV.out.ext hW).here hy).2.2.1⟩
              have HAB2 : Hid (leB L x3 j = decide (y3 ≤ x3)) := by
                unfold Hid leB
                rw [hwy]
              have HGY := Lib.hid hgy
              have hE0 : Ext wo wr := HG0.out.ext
              clear hy hyo hwy hgy hbs' hA' q3
              obtain ⟨A7, c7, rfl, _, _, _⟩ := HG0.out.eds
              obtain ⟨q, hq⟩ : ∃ q, (edsUp L (leB L x3) j).length = q := ⟨_, rfl⟩
              have hqj : q ≤ 200 := by rw [← hq]; have := edsUp_len L (leB L x3) j; omega
              rw [hq] at HG0 ⊢
              have HQ := Lib.hid hq
              have HRW : Hid (∀ {V W : World}, GrE wo (edsUp L (leB L x3) j) (.slice A7 q c7) V → Ext V W → W.ownsRow 0 34 2 (.slice A7 q c7) q (rowsOf edC (edsUp L (leB L x3) j))) := fun hG hW => by
                have := (hG.moved hW).row
                unfold DRow at this
                rwa [hq] at this
              clear hq
              by_cases d1 : y3 ≤ x3
              · have e1 : decide (y3 ≤ x3) = true := decide_eq_true d1
                have HP : Hid (leB L x3 j = true) := by rw [Hid, HAB2.out]; exact e1
                clear d1
                go_wp2_with fail
                go_quiet (fail)
                have hxq : Ext wr (wr.drewN nq) := Ext.drewN _ _
                have HG2 := Lib.hid (HG0.out.moved hxq)
                have hE2 : Ext wo (wr.drewN nq) := Ext.trans hE0 hxq
                clear hxq p1 p2 p3 q3' hE0 HG0 HAB2
                generalize wr.drewN nq = w2 at HG2 hE2 ⊢
                have r1 := (HC.out _ hE2).2.1
                have r2 := (HC.out _ hE2).2.2
                go_wp2_with fail
                go_region_held3 (fun W => Ext wo W ∧ W.cell? ⟨bs', off' + j * 3, none⟩ = some (.int .i64 (u : Nat)) ∧ W.cell? ⟨bs', off' + j * 3 + 1, none⟩ = some (.int .i64 (v : Nat)))
                  (exact HC.out _ (by first | assumption | exact Ext.trans hE2 (Ext.drew _) | exact fst1 (by assumption) | exact Ext.trans (fst1 (by assumption)) (by assumption) | exact Ext.trans (fst1 (by assumption)) (Ext.alloc _ _)))
                  (first
                    | (refine step_pushS _ (by rfl) (.tmp 52) (.tmp 66) 47 (by rfl) 34 (.agg #[.int .i64 0, .int .i64 0]) 2 16 Tryd.underlying47 infoEdge (by rfl) (by decide) (.slice A7 q c7) q (rowsOf edC (edsUp L (leB L x3) j)) (by rfl) (HRW.out HG2.out (Ext.trans (Ext.alloc _ _) (Ext.drew _))) ⟨by omega, by omega⟩ [.int .i64 u, .int .i64 v] w2.heap.size (by rfl) (by rfl) (news_cells rfl [.int .i64 u, .int .i64 v] _) (by simp [Value.oneCell']) ?_; intro g9 c9 wa ho9 hc9 hg9; have HA := Lib.hid (eds_push HG2.out HQ.out HP.out HGY.out (Ext.trans (Ext.alloc _ _) (Ext.drew _)) ho9 hc9 hg9); have hFa : Ext wo wa := HA.out.ext; clear ho9 hc9 hg9)
                    | fail)
                rename_i hHeld
                clear hHeld HC hE2 r1 r2 HG2 HRW HP
                go_wp2
                go_roundw
                case rel => exact ⟨j + 1, by omega, by go_num, HA.out⟩
                case measure => simp [intOf]; omega
              · have e1 : decide (y3 ≤ x3) = false := decide_eq_false d1
                have HP : Hid (leB L x3 j = false) := by rw [Hid, HAB2.out]; exact e1
                clear d1
                go_wp2_with fail
                go_quiet (fail)
                have HG2 := Lib.hid (eds_skip (HG0.out.moved (Ext.drewN wr nq)) HP.out)
                clear p1 p2 p3 q3' hE0 HG0 HAB2
                generalize wr.drewN nq = w2 at HG2 ⊢
                go_wp2
                go_roundw
                case rel => exact ⟨j + 1, by omega, by go_num, HG2.out⟩
                case measure => simp [intOf]; omega
            · obtain rfl : j = len := by omega
              have hjz : ¬ (j : Int) < (j : Int) := by omega
              obtain ⟨A7, c7, rfl, hE7, _, _⟩ := HG0.out.eds
              obtain ⟨q, hq⟩ : ∃ q, (edsUp L (leB L x3) j).length = q := ⟨_, rfl⟩
              have hqj : q ≤ 200 := by rw [← hq]; have := edsUp_len L (leB L x3) j; omega
              have hinn : Inn n (edsUp L (leB L x3) j) := by rw [← HL.out]; exact edsUp_inn HO.out _
              have HPA := Lib.hid (parts_any wr A7 n q c7 (edsUp L (leB L x3) j) hq hn.1 (by omega) (by omega) hE7 hinn)
              rw [hq] at HG0 ⊢
              have hE0 : Ext wo wr := HG0.out.ext
              have HCN : Hid (∀ x y, UF.Con (prs (edsUp L (leB L x3) j)) x y ↔ UF.Con (leH L (wtH L i)) x y) := fun x y => by rw [HW3.out, ← HL.out]; exact con_le
              clear hq hinn hE7 HG0
              go_wp2_with fail
              refine HPA.out.mono ?_
              rintro e w3 ⟨p, gp, cp, rfl, hrow, hip, hb3, _⟩
              obtain ⟨pa, hpa⟩ : ∃ z, p[a]? = some z := ⟨_, List.getElem?_eq_getElem (by rw [hip.len]; exact ha)⟩
              obtain ⟨pb, hpb⟩ : ∃ z, p[b]? = some z := ⟨_, List.getElem?_eq_getElem (by rw [hip.len]; exact hb)⟩
              have s1 := nrow_cell hrow hpa ha
              have s2 := nrow_cell hrow hpb hb
              have HREL := Lib.hid ((hip.rel hpa hpb).trans (HCN.out a b))
              have hE3 : Ext wo w3 := Ext.trans hE0 hb3
              have HV3 : Hid (∀ W, Ext wo W → W.cell? ⟨bs, off + i * 3 + 2, none⟩ = some (.int .i64 x3)) := fun W hW => ((HV.out.ext hW).here HX.out).2.2.2
              have zab : (a : Int) < (n : Int) := by omega
              have zbb : (b : Int) < (n : Int) := by omega
              have HR3 : Hid (Ext w w3 ∧ Ext wo w3) := ⟨Ext.trans HR.out hE3, hE3⟩
              clear hrow hip hb3 hpa hpb HCN HPA hE0 hE3 HR HV q3
              by_cases ct : pa = pb
              · have HS2 : Hid (NkS L a b (i + 1) x3) := by
                  have := HS.out.set (fun j => (wtH_in HO.out j).1) (by rw [HL.out]; exact c1) (by rw [HW3.out]; exact HBX.out) (HREL.out.1 ct)
                  rwa [HW3.out] at this
                clear HREL HS
                subst ct
                go_wp2_with fail
                go_quiet (fail)
                have HR4 : Hid (Ext w (w3.drewN nq)) := Ext.trans HR3.out.1 (Ext.drewN _ _)
                have z3 := HV3.out (w3.drewN nq) (Ext.trans HR3.out.2 (Ext.drewN _ _))
                clear HR3 s1 s2 HV3
                generalize w3.drewN nq = w4 at HR4 z3 ⊢
                go_wp2
                go_roundw
                case rel => exact ⟨i + 1, x3, by omega, rfl, by go_num, HS2.out, HR4.out⟩
                case measure => simp [intOf]; omega
              · have HS2 : Hid (NkS L a b (i + 1) best) := HS.out.keep fun q => ct (HREL.out.2 q)
                have e3 : ((pa : Int) == (pb : Int)) = false := by rw [beq_eq_false_iff_ne]; omega
                have e4 : (pa == pb) = false := by rw [beq_eq_false_iff_ne]; exact ct
                clear HREL HS ct
                go_wp2_with fail
                go_quiet (fail)
                have HR4 : Hid (Ext w (w3.drewN nq)) := Ext.trans HR3.out.1 (Ext.drewN _ _)
                clear HR3 s1 s2 HV3
                generalize w3.drewN nq = w4 at HR4 ⊢
                go_wp2
                go_roundw
                case rel => exact ⟨i + 1, best, by omega, rfl, by go_num, HS2.out, HR4.out⟩
                case measure => simp [intOf]; omega
        · have g1 : decide (0 ≤ best) = false := decide_eq_false d1
          clear d0 d1
          go_wp2
          clear g1
          go_loopw [12, 13] (fun v12 v13 wx => ∃ (j : Nat), j ≤ len ∧ v13 = .int .i64 j ∧ Hid (GrE wo (edsUp L (leB L x3) j) v12 wx)) (fun _ v13 _ => len - (intOf v13).toNat)
          case atStart => exact ⟨0, Nat.zero_le _, rfl, GrE.nil (Ext.refl _)⟩
          case round =>
            obtain ⟨j, hj, rfl, HG0⟩ := hrel
            rename_i u7
            by_cases c2 : j < len
            · have hjz : (j : Int) < (len : Int) := by omega
              have hjg : (0 : Int) ≤ (j : Int) := by omega
              obtain ⟨bs', off', y, hA', hbs', hy, p1, p2, p3⟩ := (HV.out.ext HG0.out.ext).at_ (i := j) (by rw [HL.out]; exact c2)
              have hee : bs' = bs ∧ off' = off := by rw [hA] at hA'; simp only [Option.some.injEq, Addr.mk.injEq, and_true] at hA'; exact ⟨hA'.1.symm, hA'.2.symm⟩
              obtain ⟨rfl, rfl⟩ := hee
              subst hA
              have hyo := HO.out.ok y (List.mem_of_getElem? hy)
              have hwy := wtH_at hy
              have hgy := getD_at hy
              have q3' := ((HV.out.ext HG0.out.ext).here HX.out).2.2.2
              obtain ⟨⟨y1, y2⟩, y3⟩ := y
              simp only at p1 p2 p3 hyo hwy hgy q3'
              obtain ⟨u, rfl⟩ := Int.eq_ofNat_of_zero_le hyo.1
              obtain ⟨v, rfl⟩ := Int.eq_ofNat_of_zero_le (show 0 ≤ y2 by omega)
              have HC : Hid (∀ W, Ext wo W → Ext wo W ∧ W.cell? ⟨bs', off' + j * 3, none⟩ = some (.int .i64 (u : Nat)) ∧ W.cell? ⟨bs', off' + j * 3 + 1, none⟩ = some (.int .i64 (v : Nat))) := fun W hW => ⟨hW, ((HV.out.ext hW).here hy).2.1, ((HV.out.ext hW).here hy).2.2.1⟩
              have HAB2 : Hid (leB L x3 j = decide (y3 ≤ x3)) := by
                unfold Hid leB
                rw [hwy]
              have HGY := Lib.hid hgy
              have hE0 : Ext wo wr := HG0.out.ext
              clear hy hyo hwy hgy hbs' hA' q3
              obtain ⟨A7, c7, rfl, _, _, _⟩ := HG0.out.eds
              obtain ⟨q, hq⟩ : ∃ q, (edsUp L (leB L x3) j).length = q := ⟨_, rfl⟩
              have hqj : q ≤ 200 := by rw [← hq]; have := edsUp_len L (leB L x3) j; omega
              rw [hq] at HG0 ⊢
              have HQ := Lib.hid hq
              have HRW : Hid (∀ {V W : World}, GrE wo (edsUp L (leB L x3) j) (.slice A7 q c7) V → Ext V W → W.ownsRow 0 34 2 (.slice A7 q c7) q (rowsOf edC (edsUp L (leB L x3) j))) := fun hG hW => by
                have := (hG.moved hW).row
                unfold DRow at this
                rwa [hq] at this
              clear hq
              by_cases d1 : y3 ≤ x3
              · have e1 : decide (y3 ≤ x3) = true := decide_eq_true d1
                have HP : Hid (leB L x3 j = true) := by rw [Hid, HAB2.out]; exact e1
                clear d1
                go_wp2_with fail
                go_quiet (fail)
                have hxq : Ext wr (wr.drewN nq) := Ext.drewN _ _
                have HG2 := Lib.hid (HG0.out.moved hxq)
                have hE2 : Ext wo (wr.drewN nq) := Ext.trans hE0 hxq
                clear hxq p1 p2 p3 q3' hE0 HG0 HAB2
                generalize wr.drewN nq = w2 at HG2 hE2 ⊢
                have r1 := (HC.out _ hE2).2.1
                have r2 := (HC.out _ hE2).2.2
                go_wp2_with fail
                go_region_held3 (fun W => Ext wo W ∧ W.cell? ⟨bs', off' + j * 3, none⟩ = some (.int .i64 (u : Nat)) ∧ W.cell? ⟨bs', off' + j * 3 + 1, none⟩ = some (.int .i64 (v : Nat)))
                  (exact HC.out _ (by first | assumption | exact Ext.trans hE2 (Ext.drew _) | exact fst1 (by assumption) | exact Ext.trans (fst1 (by assumption)) (by assumption) | exact Ext.trans (fst1 (by assumption)) (Ext.alloc _ _)))
                  (first
                    | (refine step_pushS _ (by rfl) (.tmp 52) (.tmp 66) 47 (by rfl) 34 (.agg #[.int .i64 0, .int .i64 0]) 2 16 Tryd.underlying47 infoEdge (by rfl) (by decide) (.slice A7 q c7) q (rowsOf edC (edsUp L (leB L x3) j)) (by rfl) (HRW.out HG2.out (Ext.trans (Ext.alloc _ _) (Ext.drew _))) ⟨by omega, by omega⟩ [.int .i64 u, .int .i64 v] w2.heap.size (by rfl) (by rfl) (news_cells rfl [.int .i64 u, .int .i64 v] _) (by simp [Value.oneCell']) ?_; intro g9 c9 wa ho9 hc9 hg9; have HA := Lib.hid (eds_push HG2.out HQ.out HP.out HGY.out (Ext.trans (Ext.alloc _ _) (Ext.drew _)) ho9 hc9 hg9); have hFa : Ext wo wa := HA.out.ext; clear ho9 hc9 hg9)
                    | fail)
                rename_i hHeld
                clear hHeld HC hE2 r1 r2 HG2 HRW HP
                go_wp2
                go_roundw
                case rel => exact ⟨j + 1, by omega, by go_num, HA.out⟩
                case measure => simp [intOf]; omega
              · have e1 : decide (y3 ≤ x3) = false := decide_eq_false d1
                have HP : Hid (leB L x3 j = false) := by rw [Hid, HAB2.out]; exact e1
                clear d1
                go_wp2_with fail
                go_quiet (fail)
                have HG2 := Lib.hid (eds_skip (HG0.out.moved (Ext.drewN wr nq)) HP.out)
                clear p1 p2 p3 q3' hE0 HG0 HAB2
                generalize wr.drewN nq = w2 at HG2 ⊢
                go_wp2
                go_roundw
                case rel => exact ⟨j + 1, by omega, by go_num, HG2.out⟩
                case measure => simp [intOf]; omega
            · obtain rfl : j = len := by omega
              have hjz : ¬ (j : Int) < (j : Int) := by omega
              obtain ⟨A7, c7, rfl, hE7, _, _⟩ := HG0.out.eds
              obtain ⟨q, hq⟩ : ∃ q, (edsUp L (leB L x3) j).length = q := ⟨_, rfl⟩
              have hqj : q ≤ 200 := by rw [← hq]; have := edsUp_len L (leB L x3) j; omega
              have hinn : Inn n (edsUp L (leB L x3) j) := by rw [← HL.out]; exact edsUp_inn HO.out _
              have HPA := Lib.hid (parts_any wr A7 n q c7 (edsUp L (leB L x3) j) hq hn.1 (by omega) (by omega) hE7 hinn)
              rw [hq] at HG0 ⊢
              have hE0 : Ext wo wr := HG0.out.ext
              have HCN : Hid (∀ x y, UF.Con (prs (edsUp L (leB L x3) j)) x y ↔ UF.Con (leH L (wtH L i)) x y) := fun x y => by rw [HW3.out, ← HL.out]; exact con_le
              clear hq hinn hE7 HG0
              go_wp2_with fail
              refine HPA.out.mono ?_
              rintro e w3 ⟨p, gp, cp, rfl, hrow, hip, hb3, _⟩
              obtain ⟨pa, hpa⟩ : ∃ z, p[a]? = some z := ⟨_, List.getElem?_eq_getElem (by rw [hip.len]; exact ha)⟩
              obtain ⟨pb, hpb⟩ : ∃ z, p[b]? = some z := ⟨_, List.getElem?_eq_getElem (by rw [hip.len]; exact hb)⟩
              have s1 := nrow_cell hrow hpa ha
              have s2 := nrow_cell hrow hpb hb
              have HREL := Lib.hid ((hip.rel hpa hpb).trans (HCN.out a b))
              have hE3 : Ext wo w3 := Ext.trans hE0 hb3
              have HV3 : Hid (∀ W, Ext wo W → W.cell? ⟨bs, off + i * 3 + 2, none⟩ = some (.int .i64 x3)) := fun W hW => ((hA ▸ HV.out.ext hW : HvAt W (some ⟨bs, off, none⟩) L).here HX.out).2.2.2
              subst hA
              have zab : (a : Int) < (n : Int) := by omega
              have zbb : (b : Int) < (n : Int) := by omega
              have HR3 : Hid (Ext w w3 ∧ Ext wo w3) := ⟨Ext.trans HR.out hE3, hE3⟩
              clear hrow hip hb3 hpa hpb HCN HPA hE0 hE3 HR HV q3
              by_cases ct : pa = pb
              · have HS2 : Hid (NkS L a b (i + 1) x3) := by
                  have := HS.out.set (fun j => (wtH_in HO.out j).1) (by rw [HL.out]; exact c1) (by rw [HW3.out]; exact HBX.out) (HREL.out.1 ct)
                  rwa [HW3.out] at this
                clear HREL HS
                subst ct
                go_wp2_with fail
                go_quiet (fail)
                have HR4 : Hid (Ext w (w3.drewN nq)) := Ext.trans HR3.out.1 (Ext.drewN _ _)
                have z3 := HV3.out (w3.drewN nq) (Ext.trans HR3.out.2 (Ext.drewN _ _))
                clear HR3 s1 s2 HV3
                generalize w3.drewN nq = w4 at HR4 z3 ⊢
                go_wp2
                go_roundw
                case rel => exact ⟨i + 1, x3, by omega, rfl, by go_num, HS2.out, HR4.out⟩
                case measure => simp [intOf]; omega
              · have HS2 : Hid (NkS L a b (i + 1) best) := HS.out.keep fun q => ct (HREL.out.2 q)
                have e3 : ((pa : Int) == (pb : Int)) = false := by rw [beq_eq_false_iff_ne]; omega
                have e4 : (pa == pb) = false := by rw [beq_eq_false_iff_ne]; exact ct
                clear HREL HS ct
                go_wp2_with fail
                go_quiet (fail)
                have HR4 : Hid (Ext w (w3.drewN nq)) := Ext.trans HR3.out.1 (Ext.drewN _ _)
                clear HR3 s1 s2 HV3
                generalize w3.drewN nq = w4 at HR4 ⊢
                go_wp2
                go_roundw
                case rel => exact ⟨i + 1, best, by omega, rfl, by go_num, HS2.out, HR4.out⟩
                case measure => simp [intOf]; omega
    · obtain rfl : i = len := by omega
      have hiz : ¬ (i : Int) < (i : Int) := by omega
      have hS := HS.out
      rw [← HL.out] at hS
      by_cases d : 0 ≤ best
      · have g1 : decide (0 ≤ best) = true := decide_eq_true d
        have HP : Hid (NoPost w L a b (.returned (.tuple #[.int .i64 best, .bool true])) wo) := ⟨best, true, rfl, .inr (.inr ⟨HAB.out, d, hS.some HAB.out d, rfl⟩), HR.out⟩
        clear hS HS d
        go_wp2
        go_ret2
        exact HP.out
      · have g1 : decide (0 ≤ best) = false := decide_eq_false d
        have HP : Hid (NoPost w L a b (.returned (.tuple #[.int .i64 best, .bool false])) wo) := by
          obtain ⟨q1, q2⟩ := hS.none HAB.out (by omega) fun j => (wtH_in HO.out j).1
          exact ⟨best, false, rfl, .inr (.inl ⟨HAB.out, q2, q1, rfl⟩), HR.out⟩
        clear hS HS d
        go_wp2
        go_ret2
        exact HP.out
end Go.Proofs.YtckcbfnffmohgaaDoor

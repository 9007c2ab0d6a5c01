/-
  PathGoes' walk. Conditions: the edges lie in memory as 'EdsAt' says; errors.errorType's cell.
-/
import Derived.Test.YtenjblonepegfaaDoorPi2
import Derived.Test.YtenjblonepegfaaDoorPg1
import Derived.Test.YtenjblonepegfaaDoorDk3
namespace Go.Proofs.YtenjblonepegfaaDoor
open Go Go.RowKit
set_option linter.unusedVariables false

theorem ex_pd {d : List Int} (h : PD.IsDist 3 PD.ex 2 d) : d = [2, 1, 0] := PD.dist_unique h PD.ex_dist
theorem ex_way {d : List Int} {p : List Nat} (h : PD.IsDist 3 PD.ex 2 d) (hw : PD.Way 3 PD.ex d 0 p) : p = [0, 1, 2] := by
  rw [ex_pd h] at hw
  exact PD.Way.unique hw PD.ex_way
theorem ex_ck : ckF 3 PD.ex [0, 2] = 0 := by decide
theorem ints_take {w : World} {A : Option Addr} {p : List Int} (h : IntsAt w A p) (i : Nat) : IntsAt w A (p.take i) := by
  rcases h with h0 | ⟨b', off', he, hb', hc⟩
  · exact .inl (by rw [h0]; simp)
  · refine .inr ⟨b', off', he, hb', fun i' v' hv' => hc i' v' ?_⟩
    rw [List.getElem?_take] at hv'
    split at hv'
    · exact hv'
    · simp at hv'
theorem has_no {w : World} {A : Option Addr} {n cc i v : Nat} {p : List Nat} (h : IntsAt w A (p.map fun (x : Nat) => (x : Int))) (hn : n = i) (hi : i ≤ p.length) (hl : p.length ≤ 1000) (hv : v ∉ p.take i) : Calls Tryd.prog 52 #[.slice A n cc, .int .i64 (v : Int)] w fun e w'' => e = .returned (.bool false) ∧ w = w'' := by
  subst hn
  refine (has_any w A n cc _ v (ints_take h n) (by simp; omega) (by omega)).mono ?_
  rintro e w'' ⟨rfl, rfl⟩
  refine ⟨?_, rfl⟩
  have : ¬ (v : Int) ∈ List.take n (p.map fun (x : Nat) => (x : Int)) := fun hm => by
    rw [← List.map_take] at hm
    obtain ⟨z, hz, he⟩ := List.mem_map.1 hm
    have : z = v := by omega
    subst this
    exact hv hz
  rw [decide_eq_false this]
theorem fsth {w w' : World} {P Q : Prop} (h : Ext w w' ∧ P ∧ Q) : Ext w w' := h.1
set_option maxRecDepth 100000 in
set_option maxHeartbeats 8000000 in
theorem pg_walk (n : Int) (A : Option Addr) (m c : Nat) (l : List AK.Ed) (a b z : Int) (w : World) (hd : Td.Door w) (hs : EdsAt w A l ∧ l.length = m ∧ m ≤ c ∧ c ≤ maxLen) :
    Calls Tryd.prog 8 #[.int .i64 n, .slice A m c, .int .i64 a, .int .i64 b, .int .i64 z] w fun e w' => e = .returned (.bool true) ∧ Below w.heap.size w w' := by
  obtain ⟨hs, hlm, hmc, hcm⟩ := hs
  unfold maxLen at hcm
  have H := Lib.hid hs
  have HD := Lib.hid hd
  have HL := Lib.hid hlm
  have hm63 : m ≤ 9223372036854775807 := by omega
  clear hs hd hlm
  have HE1 : Hid (EdsAt (w.alloc (.cells #[.int .i64 0, .int .i64 1, .int .i64 1, .int .i64 2] 100)) (some ⟨w.heap.size, 0, none⟩) PD.ex) := by
    refine .inr ⟨w.heap.size, 0, rfl, by simp, fun i v hv => ?_⟩
    have hb := Blk.new w 100 #[.int .i64 0, .int .i64 1, .int .i64 1, .int .i64 2]
    match i, hv with
    | 0, hv => simp [PD.ex] at hv; subst hv; exact ⟨hb.cell 0, hb.cell 1⟩
    | 1, hv => simp [PD.ex] at hv; subst hv; exact ⟨hb.cell 2, hb.cell 3⟩
  go_enter Tryd.func8, Tryd.ntmps8
  go_wp2_with fail
  refine (short_any _ 3 (some ⟨w.heap.size, 0, none⟩) 2 2 PD.ex rfl (by decide) HE1.out 0 2).mono ?_
  intro e w1 hp
  obtain ⟨hx1, d1, hd1, h1⟩ := ShPost.ok (k := 3) (x := 0) (y := 2) hp ex_ck
  obtain rfl := ex_pd hd1
  rcases h1 with ⟨h, _⟩ | ⟨_, A1, c1, p1, rfl, hw1, ho1, _⟩
  · exact absurd h (by decide)
  obtain rfl := PD.Way.unique hw1 PD.ex_way
  have HX1 : Hid (Ext w w1) := Ext.trans (Ext.alloc _ _) hx1
  have HI1 := Lib.hid (natsV_ints ho1)
  have HI2 : Hid (IntsAt (w1.alloc (.cells #[.int .i64 0, .int .i64 1, .int .i64 2] 3)) (some ⟨w1.heap.size, 0, none⟩) [0, 1, 2]) := by
    refine .inr ⟨w1.heap.size, 0, rfl, by simp, fun i v hv => ?_⟩
    have hb := Blk.new w1 3 #[.int .i64 0, .int .i64 1, .int .i64 2]
    match i, hv with
    | 0, hv => simp at hv; subst hv; exact hb.cell 0
    | 1, hv => simp at hv; subst hv; exact hb.cell 1
    | 2, hv => simp at hv; subst hv; exact hb.cell 2
  clear hp hx1 hd1 hw1 ho1 HE1
  go_wp2_with fail
  refine (ints_any _ A1 (some ⟨w1.heap.size, 0, none⟩) 3 3 c1 3 [0, 1, 2] [0, 1, 2] (HI1.out.ext (Ext.alloc _ _)) HI2.out rfl rfl (by omega) (by omega) true (by simp)).mono ?_
  rintro e w2 ⟨rfl, hx2⟩
  have HX2 : Hid (Ext w w2) := Ext.trans HX1.out (Ext.trans (Ext.alloc _ _) hx2)
  clear hx2 HI1 HI2
  go_wp2_with fail
  refine (pfar_any w2 n A m c l HL.out hm63 (H.out.ext HX2.out) a).mono ?_
  intro e w3 hp
  have HX3 : Hid (Ext w w3) := Ext.trans HX2.out hp.1
  by_cases h0 : ckF n l [a] = 0
  · obtain ⟨k, rfl, hk0, hk60, hf, hF0, hz⟩ := ckF_zero h0
    obtain ⟨x, rfl, hxk⟩ := hz a (by simp)
    obtain ⟨gd, cd, d, rfl, hdd, hr⟩ := hp.ok h0
    have HR := Lib.hid hr
    have HDD := Lib.hid hdd
    have HF := Lib.hid hf
    have HF0 := Lib.hid hF0
    have HBX : Hid (badN k x = false) := by simp [Hid, badN]; omega
    clear hp hf hF0 hz h0 hdd hr
    go_wp2
    go_loop [16] (fun v => ∃ i : Nat, i ≤ m ∧ v = .int .i64 i) (fun v => m - (intOf v).toNat)
    case atStart => exact ⟨0, Nat.zero_le _, rfl⟩
    case round =>
      obtain ⟨i, hi, rfl⟩ := hrel
      by_cases hlt : i < m
      · have hlt' : (i : Int) < (m : Int) := by omega
        obtain ⟨bs, off, hA, hbs, u, v, hlu, huv, hvk, cu, cv⟩ := edge_at (H.out.ext HX3.out) HL.out HF.out hlt
        subst hA
        have huk : u < k := by omega
        have huk' : (u : Int) < (k : Int) := by omega
        have hvk' : (v : Int) < (k : Int) := by omega
        obtain ⟨du, _⟩ := HR.out.cell HDD.out.len huk
        obtain ⟨dv, _⟩ := HR.out.cell HDD.out.len hvk
        have hst := PD.dist_step HDD.out huk hvk (.inl (List.mem_of_getElem? hlu))
        have r1 := HDD.out.rng u huk
        have r2 := HDD.out.rng v hvk
        have b1 := HDD.out.toBase.below huk
        have b2 := HDD.out.toBase.below hvk
        obtain ⟨gu, hgu⟩ : ∃ t, PD.g d u = t := ⟨_, rfl⟩
        obtain ⟨gv, hgv⟩ : ∃ t, PD.g d v = t := ⟨_, rfl⟩
        rw [hgu] at du hst r1 b1
        rw [hgv] at dv hst r2 b2
        obtain ⟨s1, s2, s3⟩ := hst
        have s4 : (decide (gu < 0) == decide (gv < 0)) = true := by simp [s1]
        have s5 : (decide (gu < 0) != decide (gv < 0)) = false := by simp [s1]
        have s6 : ¬ 1 < gu - gv := by omega
        have s7 : ¬ 1 < gv - gu := by omega
        clear hlu hgu hgv
        go_wp2
        go_round
        case rel => exact ⟨i + 1, by omega, by go_num⟩
        case measure => simp [intOf]; omega
      · go_wp2_with fail
        refine (short_any w3 k A m c l HL.out hm63 (H.out.ext HX3.out) x b).mono ?_
        intro e w4 hp
        have HX4 : Hid (Ext w w4) := Ext.trans HX3.out hp.1
        by_cases bb : badN k b = true
        · have hc : ckF k l [(x : Int), b] = 1 := ckF_bad HF0.out (by simp [bb])
          obtain ⟨rfl, _⟩ := hp.err hc (by decide)
          clear hp hc
          rw [errOf_ne (by decide)]
          go_wp2_with fail
          refine (same_errno w4 1 4 (HD.out.new HX4.out) false (by simp)).mono ?_
          rintro e w5 ⟨rfl, hx5⟩
          have HX5 : Hid (Ext w w5) := Ext.trans HX4.out hx5
          clear hx5
          go_wp2
          go_ret
          exact ⟨rfl, HX5.out⟩
        · have hyb : ∃ y : Nat, b = (y : Int) ∧ y < k := by
            simp [badN] at bb
            obtain ⟨z, hz⟩ := Int.eq_ofNat_of_zero_le bb.1
            exact ⟨z, hz, by omega⟩
          obtain ⟨y, rfl, hyk⟩ := hyb
          have bb' : badN k y = false := by simpa using bb
          have hc : ckF k l [(x : Int), (y : Int)] = 0 := ckF_ok HF0.out (by simp [HBX.out, bb'])
          have hc2 : ckF k l [(y : Int), (x : Int)] = 0 := ckF_ok HF0.out (by simp [HBX.out, bb'])
          have hc3 : ckF k l [(y : Int)] = 0 := ckF_ok HF0.out (by simp [bb'])
          have HC2 := Lib.hid hc2
          have HC3 := Lib.hid hc3
          have hyk' : (y : Int) < (k : Int) := by omega
          obtain ⟨_, dy, hdy, h4⟩ := hp.ok hc
          have hsy := PD.dist_symm HDD.out hdy
          have HDY := Lib.hid hdy
          obtain ⟨gy, hgy⟩ : ∃ t, PD.g d y = t := ⟨_, rfl⟩
          rw [hgy] at hsy
          have HGY := Lib.hid hgy
          have hR4 := HR.out.moved (Ext.trans (Ext.refl _) hp.1)
          have HR4 := Lib.hid hR4
          clear hc hc2 hc3 hdy bb bb' hgy
          rcases h4 with ⟨hneg, rfl⟩ | ⟨hpos, A4, c4, p, rfl, hw4, ho4, hl4⟩
          · rw [errOf_ne (by decide)]
            clear hp hR4
            go_wp2_with fail
            refine (same_errno w4 4 4 (HD.out.new HX4.out) true (by simp)).mono ?_
            rintro e w5 ⟨rfl, hx5⟩
            have HX5 : Hid (Ext w w5) := Ext.trans HX4.out hx5
            obtain ⟨cy, _⟩ := (HR4.out.moved hx5).cell HDD.out.len hyk
            rw [HGY.out] at cy
            have hgn : gy < 0 := by omega
            clear hx5 hneg hsy
            go_wp2
            go_ret
            exact ⟨rfl, HX5.out⟩
          · clear hp hR4
            obtain ⟨hat0, hlen, hats⟩ := hw4.at hxk
            obtain ⟨L, hL⟩ : ∃ L, p.length = L + 1 := ⟨p.length - 1, by omega⟩
            have hi4 := natsV_ints ho4
            have hcap : p.length ≤ c4 := by
              obtain ⟨A', c', he, hc'⟩ := own_slice3 ho4
              simp only [Value.slice.injEq] at he
              obtain ⟨_, _, rfl⟩ := he
              exact hc'
            have HW4 := Lib.hid hw4
            have HI4 := Lib.hid hi4
            obtain ⟨zl, hzl⟩ : ∃ t, p[L]? = some t := ⟨_, List.getElem?_eq_getElem (by omega)⟩
            obtain rfl := hw4.last HDY.out hxk (z := zl) (by rw [hL]; exact hzl)
            rcases hi4 with h0 | ⟨b4, off4, rfl, hb4, hc4⟩
            · simp at h0; subst h0; simp at hL
            have cx0 := hc4 0 x (by simp [hat0])
            simp only [Nat.add_zero] at cx0
            have cxL := hc4 L zl (by simp [hzl])
            obtain ⟨cy, _⟩ := HR4.out.cell HDD.out.len hyk
            rw [HGY.out] at cy
            have hgL : gy = (L : Int) := by omega
            subst hgL
            have HPL := Lib.hid hL
            have hL60 : L ≤ 100 := by omega
            have hLc : L + 1 ≤ c4 := by omega
            rw [hL]
            clear hcap hw4 ho4 hats hc4 hzl hat0 hlen hsy hpos hL hl4
            have q1 : IntKind.i64.wrap ((L : Int) + 1) = (L : Int) + 1 := IntWalk.i64_in _ (by omega)
            go_wp2
            go_loopw [21] (fun v21 wr => ∃ (j : Nat) (t : Int), j ≤ L ∧ (j : Int) + 1 = t ∧ v21 = .int .i64 t ∧ Hid (Ext w4 wr)) (fun v21 _ => L + 1 - (intOf v21).toNat)
            case atStart => exact ⟨0, 1, Nat.zero_le _, rfl, rfl, Ext.refl _⟩
            case round =>
              obtain ⟨j, t, hjL, hjt, rfl, hwr⟩ := hrel
              have HWR : Hid (Ext w wr) := Ext.trans HX4.out hwr.out
              by_cases hlt : j < L
              · obtain ⟨i, hi⟩ : ∃ i : Nat, j + 1 = i := ⟨_, rfl⟩
                have hit : t.toNat = i := by omega
                have hpL := HPL.out
                obtain ⟨u, hu⟩ : ∃ u, p[j]? = some u := ⟨_, List.getElem?_eq_getElem (by omega)⟩
                obtain ⟨v, hv⟩ : ∃ v, p[i]? = some v := ⟨_, List.getElem?_eq_getElem (by omega)⟩
                have hadj := HW4.out.adjs j u v hu (by rw [hi]; exact hv)
                have honce := HW4.out.once hxk hv
                have hi4 := HI4.out.ext hwr.out
                have hc4 : ∀ (i v : Nat), p[i]? = some v → wr.cell? ⟨b4, off4 + i, none⟩ = some (.int .i64 (v : Int)) := by
                  rcases hi4 with h0 | ⟨b', off', he, _, hc⟩
                  · simp at h0; subst h0; simp at hpL
                  · simp at he; obtain ⟨rfl, rfl⟩ := he
                    exact fun i v h => hc i v (by simp [h])
                have cu := hc4 j u hu
                have cv := hc4 i v hv
                rw [← hit] at cv
                have hb4' : b4 < wr.heap.size := Nat.lt_of_lt_of_le hb4 hwr.out.size
                have HPL2 : Hid (∀ w', Ext wr w' → Calls Tryd.prog 51 #[.slice A m c, .int .i64 (u : Int), .int .i64 (v : Int)] w' fun e w'' => e = .returned (.int .i64 (RF.placeV (RF.place l (AK.ek u v)))) ∧ Below w'.heap.size w' w'') := fun w' hw' => place_any w' A m c l u v HL.out (by have := HF.out.1; have := HL.out; omega) (H.out.ext (Ext.trans HWR.out hw'))
                have HHS : Hid (∀ w' cc, Ext wr w' → Calls Tryd.prog 52 #[.slice (some ⟨b4, off4, none⟩) t.toNat cc, .int .i64 (v : Int)] w' fun e w'' => e = .returned (.bool false) ∧ w' = w'') := fun w' cc hw' => has_no (HI4.out.ext (Ext.trans hwr.out hw')) hit (by omega) (by omega) honce
                have hpv : decide (0 ≤ RF.placeV (RF.place l (AK.ek u v))) = true := by rw [placeV_pos]; simpa using (adj_ek HF.out).1 hadj
                obtain ⟨pv, hpvv⟩ : ∃ t, RF.placeV (RF.place l (AK.ek u v)) = t := ⟨_, rfl⟩
                rw [hpvv] at HPL2 hpv
                have hpv0 : ¬ pv < 0 := by have : 0 ≤ pv := by simpa using hpv
                                           omega
                have hpv1 : decide (pv < 0) = false := by simpa using hpv0
                have t0 : (0 : Int) ≤ t := by omega
                have t1 : t < (L : Int) + 1 := by omega
                have t2 : t - 1 = (j : Int) := by omega
                have t3 : IntKind.i64.wrap (j : Int) = (j : Int) := IntWalk.i64_in _ (by omega)
                have t4 : (j : Int) < (L : Int) + 1 := by omega
                have t5 : t ≤ (c4 : Int) := by omega
                have HC : Hid (∀ w', Ext wr w' → Ext wr w' ∧ w'.cell? ⟨b4, off4 + j, none⟩ = some (.int .i64 (u : Int)) ∧ w'.cell? ⟨b4, off4 + t.toNat, none⟩ = some (.int .i64 (v : Int))) := fun w' hw => ⟨hw, (hw.cell (p := ⟨b4, _, none⟩) hb4').trans cu, (hw.cell (p := ⟨b4, _, none⟩) hb4').trans cv⟩
                have t6 : IntKind.i64.wrap (t - 1) = (j : Int) := by rw [t2]; exact t3
                have HJ := Lib.hid hjt
                have HWr := Lib.hid hwr.out
                clear hu hv hadj honce hi4 hc4 hit hpL hwr hjt hi hpv hpvv
                go_wp2
                go_region_held3 (fun w' => Ext wr w' ∧ w'.cell? ⟨b4, off4 + j, none⟩ = some (.int .i64 (u : Int)) ∧ w'.cell? ⟨b4, off4 + t.toNat, none⟩ = some (.int .i64 (v : Int)))
                  (exact HC.out _ (by first | exact Ext.drew _ | exact fsth (by assumption) | exact Ext.trans (fsth (by assumption)) (by assumption)))
                  (first
                    | (go_at_call 51; refine (HPL2.out _ (fsth (by assumption))).mono ?_; rintro e w5 ⟨rfl, hb5⟩)
                    | (go_at_call 52; refine (HHS.out _ _ (fsth (by assumption))).mono ?_; rintro e w6 ⟨rfl, rfl⟩))
                rename_i hHeld
                have HN : Hid (Ext w4 w5) := Ext.trans HWr.out (fsth hHeld)
                have hj1 := HJ.out
                clear HC HHS HPL2 cu cv
                go_wp2
                go_roundw
                case rel => (repeat apply Exists.intro); exact ⟨⟨j + 1, t + 1, by omega, by omega, by go_num, HN.out⟩, rfl⟩
                case measure => simp [intOf]; omega
              · obtain rfl : L = j := by omega
                have hlt2 : ¬ t < (L : Int) + 1 := by omega
                have HWr := Lib.hid hwr.out
                clear hwr hjt hlt hjL cx0 cxL cy
                go_wp2_with fail
                refine (short_any wr k A m c l HL.out hm63 (H.out.ext HWR.out) (zl : Int) (x : Int)).mono ?_
                intro e w6 hp
                have HX6 : Hid (Ext w w6) := Ext.trans HWR.out hp.1
                have HX46 : Hid (Ext w4 w6) := Ext.trans HWr.out hp.1
                obtain ⟨_, d6, hd6, h6⟩ := hp.ok HC2.out
                have e6 : d = d6 := PD.dist_unique HDD.out hd6
                subst e6
                have hgy := HGY.out
                rcases h6 with ⟨h, _⟩ | ⟨_, A6, c6, p6, rfl, hw6, _, _⟩
                · omega
                have hl6 : p6.length = L + 1 := by have := (hw6.at hyk).2.1; omega
                rw [hl6]
                clear hp hd6 hw6 hl6 hgy
                go_wp2_with fail
                refine (pfar_any w6 k A m c l HL.out hm63 (H.out.ext HX6.out) (zl : Int)).mono ?_
                intro e w7 hp
                have HX7 : Hid (Ext w w7) := Ext.trans HX6.out hp.1
                have hR7 := HR4.out.moved (Ext.trans HX46.out hp.1)
                obtain ⟨gd7, cd7, d7, rfl, hd7, hr7⟩ := hp.ok HC3.out
                have e7 : dy = d7 := PD.dist_unique HDY.out hd7
                subst e7
                have HR7 := Lib.hid hr7
                have HR47 := Lib.hid hR7
                clear hp hd7 hr7 hR7
                by_cases z0 : z < 0
                · go_wp2
                  go_ret
                  exact ⟨rfl, HX7.out⟩
                · by_cases z1 : (k : Int) ≤ z
                  · go_wp2
                    go_ret
                    exact ⟨rfl, HX7.out⟩
                  · obtain ⟨q, rfl⟩ := Int.eq_ofNat_of_zero_le (show 0 ≤ z by omega)
                    have hqk : q < k := by omega
                    have hqk' : (q : Int) < (k : Int) := by omega
                    have z2 : (0 : Int) ≤ (q : Int) := by omega
                    obtain ⟨cq, _⟩ := HR47.out.cell HDD.out.len hqk
                    obtain ⟨cy, _⟩ := HR47.out.cell HDD.out.len hyk
                    obtain ⟨fq, _⟩ := HR7.out.cell HDY.out.len hqk
                    have htri := fun h0 => PD.dist_tri HDD.out HDY.out hqk (by rw [HGY.out]; omega) h0
                    rw [HGY.out] at cy htri
                    have b1 := HDD.out.toBase.below hqk
                    have b2 := HDY.out.toBase.below hqk
                    have r2 := HDY.out.rng q hqk
                    obtain ⟨gq, hgq⟩ : ∃ t, PD.g d q = t := ⟨_, rfl⟩
                    obtain ⟨kq, hkq⟩ : ∃ t, PD.g dy q = t := ⟨_, rfl⟩
                    rw [hgq] at cq htri b1
                    rw [hkq] at fq htri b2 r2
                    clear hgq hkq
                    by_cases hq0 : gq < 0
                    · clear htri
                      go_wp2
                      go_ret
                      exact ⟨rfl, HX7.out⟩
                    · have hle := htri (by omega)
                      have hle2 : decide (gq ≤ (L : Int) + kq) = true := by simpa using hle
                      have hwr : IntKind.i64.wrap ((L : Int) + kq) = (L : Int) + kq := IntWalk.i64_in _ (by omega)
                      have HX8 : Hid (∀ nq, Ext w (w7.drewN nq)) := fun nq => Ext.trans HX7.out (Ext.drewN _ _)
                      clear htri
                      go_wp2
                      go_quiet (fail)
                      go_wp2
                      go_ret
                      exact ⟨rfl, HX8.out _⟩
  · obtain ⟨rfl, _⟩ := hp.err rfl h0
    clear hp
    rw [errOf_ne h0]
    go_wp2
    go_ret
    exact ⟨rfl, HX3.out⟩
end Go.Proofs.YtenjblonepegfaaDoor

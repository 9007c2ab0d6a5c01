/-
  PathRings' walk. Conditions: the edges lie in memory as 'EdsAt' says; errors.errorType's cell.
-/
import Derived.Test.YtakjakglkfhaaaaDoorRg2
import Derived.Test.YtakjakglkfhaaaaDoorSer
import Derived.Test.YtakjakglkfhaaaaDoorHas
import Derived.Lib.QuietBelow
namespace Go.Proofs.YtakjakglkfhaaaaDoor
open Go Go.RowKit
set_option linter.unusedVariables false

def rgE : List AK.Ed := [(0, 1), (0, 2), (1, 2)]
theorem rg_dist : PD.IsDist 3 [(0, 1), (0, 2)] 2 [1, 2, 0] := by
  have hg : ∀ v, v < 3 → PD.g [1, 2, 0] v = if v = 0 then 1 else if v = 1 then 2 else 0 := fun v hv => by
    match v, hv with
    | 0, _ => rfl
    | 1, _ => rfl
    | 2, _ => rfl
  have ha : ∀ u v : Nat, PD.adj [(0, 1), (0, 2)] u v ↔ (u = 0 ∧ v = 1) ∨ (u = 1 ∧ v = 0) ∨ (u = 0 ∧ v = 2) ∨ (u = 2 ∧ v = 0) := fun u v => by
    unfold PD.adj; simp; omega
  refine ⟨⟨rfl, by omega, rfl, fun v hv => ?_, fun v hv h => ?_, fun v hv h => ?_⟩, fun u v hu hv hadj h => ?_⟩
  · rw [hg v hv]; split; omega; split <;> omega
  · rw [hg v hv] at h
    by_cases e1 : v = 0
    · rw [if_pos e1] at h; omega
    · rw [if_neg e1] at h
      by_cases e2 : v = 1
      · rw [if_pos e2] at h; omega
      · omega
  · rw [hg v hv] at h ⊢
    match v, hv with
    | 0, _ => exact ⟨2, by omega, (ha 2 0).2 (by omega), by rw [hg 2 (by omega)]; simp⟩
    | 1, _ => exact ⟨0, by omega, (ha 0 1).2 (by omega), by rw [hg 0 (by omega)]; simp⟩
    | 2, _ => simp at h
  · rw [hg u hu] at h ⊢
    rw [hg v hv]
    rcases (ha u v).1 hadj with ⟨rfl, rfl⟩ | ⟨rfl, rfl⟩ | ⟨rfl, rfl⟩ | ⟨rfl, rfl⟩ <;> simp
theorem rg_no0 (u v : Nat) (h : u ≠ v) : ¬ DF.Cn (PD.adj []) u v := fun c => by
  have := c.keeps (S := fun z => z = u) (fun p q e => by unfold PD.adj at e; simp at e)
  exact h (this.1 rfl).symm
theorem rg_no1 : ¬ DF.Cn (PD.adj [(0, 1)]) 0 2 := fun c => by
  have := c.keeps (S := fun z => z ≤ 1) (fun p q e => by unfold PD.adj at e; simp at e; omega)
  have := this.1 (by omega)
  omega
theorem rg_wood (h : DF.Wood rgE) : False := by
  refine h 2 1 2 rfl ?_
  exact .trans (.symm (.edge (show PD.adj _ 0 1 from .inl (by simp [rgE])))) (.edge (show PD.adj _ 0 2 from .inl (by simp [rgE])))
theorem rg_ring {p : List Nat} (h : DF.RingOf 3 rgE p) : p.length = 3 := by
  obtain ⟨i, u, v, d, hi, hu, hv, hd, h0, hw⟩ := h
  match i, hi with
  | 0, hi =>
    simp [rgE] at hi
    have e1 : u = 0 := by omega
    have e2 : v = 1 := by omega
    subst e1; subst e2
    have := (DF.dist_cn hd (fun p q e => by unfold PD.adj at e; simp at e) hu).1 h0
    exact absurd this (rg_no0 1 0 (by omega))
  | 1, hi =>
    simp [rgE] at hi
    have e1 : u = 0 := by omega
    have e2 : v = 2 := by omega
    subst e1; subst e2
    have := (DF.dist_cn hd (fun p q e => by unfold PD.adj at e; simp [rgE] at e; omega) hu).1 h0
    exact absurd (DF.Cn.symm this) rg_no1
  | 2, hi =>
    simp [rgE] at hi
    have e1 : u = 1 := by omega
    have e2 : v = 2 := by omega
    subst e1; subst e2
    have : d = [1, 2, 0] := PD.dist_unique hd rg_dist
    subst this
    have := (hw.at hu).2.1
    have : (p.length : Int) = 2 + 1 := this
    omega
  | i + 3, hi => simp [rgE] at hi
theorem ints_take' {w : World} {A : Option Addr} {p : List Int} (h : IntsAt w A p) (i : Nat) : IntsAt w A (p.take i) := by
  rcases h with h0 | ⟨b', off', he, hb', hc⟩
  · exact .inl (by rw [h0]; simp)
  · refine .inr ⟨b', off', he, hb', fun i' v' hv' => hc i' v' ?_⟩
    rw [List.getElem?_take] at hv'
    split at hv'
    · exact hv'
    · simp at hv'
theorem has_not {w : World} {A : Option Addr} {cc i v : Nat} {p : List Nat} (h : IntsAt w A (p.map fun (x : Nat) => (x : Int))) (hi : i ≤ p.length) (hl : p.length ≤ 1000) (hv : v ∉ p.take i) : Calls Tryd.prog 32 #[.slice A i cc, .int .i64 (v : Int)] w fun e w'' => e = .returned (.bool false) ∧ Below w.heap.size w w'' := by
  refine (has_any w A i cc _ v (ints_take' h i) (by simp; omega) (by omega)).mono ?_
  rintro e w'' ⟨rfl, rfl⟩
  refine ⟨?_, Below.refl _ _⟩
  have : ¬ (v : Int) ∈ List.take i (p.map fun (x : Nat) => (x : Int)) := fun hm => by
    rw [← List.map_take] at hm
    obtain ⟨z, hz, he⟩ := List.mem_map.1 hm
    have : z = v := by omega
    subst this
    exact hv hz
  rw [decide_eq_false this]
theorem adj_ek' {n : Nat} {l : List AK.Ed} (hok : ∀ x ∈ l, 0 ≤ x.1 ∧ x.1 < x.2 ∧ x.2 < (n : Int)) {y z : Nat} (h : PD.adj l y z) : AK.ek y z ∈ l := by
  unfold AK.ek
  rcases h with h | h
  · have := hok _ h
    simp only at this
    rw [Int.min_eq_left (by omega), Int.max_eq_right (by omega)]; exact h
  · have := hok _ h
    simp only at this
    rw [Int.min_eq_right (by omega), Int.max_eq_left (by omega)]; exact h
theorem ek_ek (y z : Nat) : AK.ek y z = DF.ek y z := by unfold AK.ek DF.ek; simp only [Prod.mk.injEq]; omega
set_option maxRecDepth 100000 in
set_option maxHeartbeats 8000000 in
theorem rg_walk (n : Int) (A : Option Addr) (m c : Nat) (l : List AK.Ed) (w : World) (hd : Td.Door w) (hs : EdsAt w A l ∧ l.length = m ∧ m ≤ c ∧ c ≤ maxLen) :
    Calls Tryd.prog 7 #[.int .i64 n, .slice A m c] w fun e w' => e = .returned (.bool true) ∧ Below w.heap.size w w' := by
  obtain ⟨hs, hlm, hmc, hcm⟩ := hs
  unfold maxLen at hcm
  have H := Lib.hid hs
  have HL := Lib.hid hlm
  have HD := Lib.hid hd
  have hm63 : m ≤ 9223372036854775807 := by omega
  clear hs hlm hd
  have HE1 : Hid (EdsAt (w.alloc (.cells #[.int .i64 0, .int .i64 1, .int .i64 0, .int .i64 2, .int .i64 1, .int .i64 2] 63)) (some ⟨w.heap.size, 0, none⟩) rgE) := by
    refine .inr ⟨w.heap.size, 0, rfl, by simp, fun i v hv => ?_⟩
    have hb := Blk.new w 63 #[.int .i64 0, .int .i64 1, .int .i64 0, .int .i64 2, .int .i64 1, .int .i64 2]
    match i, hv with
    | 0, hv => simp [rgE] at hv; subst hv; exact ⟨hb.cell 0, hb.cell 1⟩
    | 1, hv => simp [rgE] at hv; subst hv; exact ⟨hb.cell 2, hb.cell 3⟩
    | 2, hv => simp [rgE] at hv; subst hv; exact ⟨hb.cell 4, hb.cell 5⟩
  go_enter Tryd.func7, Tryd.ntmps7
  go_wp2_with fail
  refine (ring_any _ 3 (some ⟨w.heap.size, 0, none⟩) 3 3 rgE rfl (by decide) (by decide) HE1.out).mono ?_
  intro e w1 hp
  obtain ⟨hx1, ⟨h, _⟩ | ⟨_, ⟨h, _⟩ | ⟨k1, A1, c1, p1, hk1, rfl, _, _, _, hr1⟩⟩⟩ := hp
  · exact absurd (by decide) h
  · exact absurd h rg_wood
  obtain rfl : k1 = 3 := by omega
  have hl1 := rg_ring hr1
  rw [hl1]
  have HX1 : Hid (Ext w w1) := Ext.trans (Ext.alloc _ _) hx1
  clear hx1 hr1 hk1 hl1 HE1
  go_wp2_with fail
  refine (ring_any w1 n A m c l HL.out hmc (by omega) (H.out.ext HX1.out)).mono ?_
  intro e w2 hp
  obtain ⟨hx2, ⟨h0, rfl⟩ | ⟨h0, hp⟩⟩ := hp
  · have HX2 : Hid (Ext w w2) := Ext.trans HX1.out hx2
    have H0 := Lib.hid h0
    rw [errOf_n h0]
    clear h0 hx2
    go_wp2_with fail
    refine (bridges_any w2 n A m c l HL.out hm63 (H.out.ext HX2.out)).mono ?_
    intro e w3 hp
    obtain ⟨hx3, ⟨h0, rfl⟩ | ⟨h0, _⟩⟩ := hp
    · have HX3 : Hid (Ext w w3) := Ext.trans HX2.out hx3
      rw [errOf_n h0]
      clear h0 hx3
      go_wp2
      go_ret
      exact ⟨rfl, HX3.out⟩
    · exact absurd h0 H0.out
  have HX2 : Hid (Ext w w2) := Ext.trans HX1.out hx2
  have H0 := Lib.hid h0
  obtain ⟨k, rfl, hk0, hk60, hf⟩ := fine_ok h0
  obtain ⟨_, _, hl200, hok, hpw⟩ := edgF_iff.1 h0
  have HOK := Lib.hid hok
  have HPW := Lib.hid hpw
  have hm200 : m ≤ 200 := by have := HL.out; omega
  clear h0 hx2 hf hl200 hok hpw HX1
  rcases hp with ⟨hwood, rfl⟩ | ⟨k', A2, c2, p, hkk, rfl, hi2, hpc, hcm2, hring⟩
  · have HW := Lib.hid hwood
    clear hwood
    go_wp2_with fail
    refine (bridges_any w2 k A m c l HL.out hm63 (H.out.ext HX2.out)).mono ?_
    intro e w3 hp
    obtain ⟨hx3, ⟨h0, _⟩ | ⟨_, k', Ax, cx, x, hkk, rfl, hex, hcx, hlx, hbx⟩⟩ := hp
    · exact absurd H0.out h0
    obtain rfl : k = k' := by omega
    have HX3 : Hid (Ext w w3) := Ext.trans HX2.out hx3
    rw [wood_all HW.out HOK.out HPW.out hbx, HL.out]
    clear hx3 hex hbx hcx hlx hkk
    go_wp2_with fail
    refine (same_errno w3 4 4 (HD.out.new HX3.out) true (by simp)).mono ?_
    rintro e w4 ⟨rfl, hx4⟩
    have HX4 : Hid (Ext w w4) := Ext.trans HX3.out hx4
    clear hx4
    go_wp2
    go_ret
    exact ⟨rfl, HX4.out⟩
  · obtain rfl : k = k' := by omega
    obtain ⟨hris, u, v, huvm, huvg⟩ := hring.is HOK.out HPW.out
    have HRI := Lib.hid hris
    have HI2 := Lib.hid hi2
    obtain ⟨L, hL⟩ : ∃ t, p.length = t := ⟨_, rfl⟩
    have hL3 : 3 ≤ L := by have := hris.len; omega
    have hL61 : L ≤ 61 := by have := hris.top; omega
    rw [hL] at hpc ⊢
    have HLP := Lib.hid hL
    have HNE : Hid (∀ x, BrsOf k l x → x.length ≠ m) := fun x hx => by rw [← HL.out]; exact ring_some HOK.out HPW.out hx huvm huvg
    clear hi2 hring hkk huvm huvg hL hris
    go_wp2_with fail
    refine (bridges_any w2 k A m c l HL.out hm63 (H.out.ext HX2.out)).mono ?_
    intro e w3 hp
    obtain ⟨hx3, ⟨h0, _⟩ | ⟨_, k', Ax, cx, x, hkk, rfl, hex, hcx, hlx, hbx⟩⟩ := hp
    · exact absurd H0.out h0
    obtain rfl : k = k' := by omega
    have HX3 : Hid (Ext w w3) := Ext.trans HX2.out hx3
    have HI3 : Hid (IntsAt w3 A2 (p.map fun (x : Nat) => (x : Int))) := HI2.out.ext hx3
    have HEX := Lib.hid hex
    have HBX := Lib.hid hbx
    have hne := HNE.out x hbx
    obtain ⟨lx, hlxe⟩ : ∃ t, x.length = t := ⟨_, rfl⟩
    rw [hlxe] at hcx hlx hne ⊢
    have HLX := Lib.hid hlxe
    have hne1 : ((lx : Int) == (m : Int)) = false := by simp; omega
    have hne2 : (lx == m) = false := by simpa using hne
    clear hx3 hex hbx hlxe hkk HI2 HX2 HNE hne
    go_wp2
    go_loopw [12] (fun v12 wr => ∃ i : Nat, i ≤ L ∧ v12 = .int .i64 i ∧ Hid (Ext w3 wr)) (fun v12 _ => L - (intOf v12).toNat)
    case atStart => exact ⟨0, Nat.zero_le _, rfl, Ext.refl _⟩
    case round =>
      obtain ⟨i, hi, rfl, hwr⟩ := hrel
      by_cases hlt : i < L
      · have hi0 : (0 : Int) ≤ (i : Int) := by omega
        have hi1 : (i : Int) < (L : Int) := by omega
        have hic : (i : Int) ≤ (c2 : Int) := by omega
        have hic2 : i ≤ c2 := by omega
        obtain ⟨y, hy⟩ : ∃ y, p[i]? = some y := ⟨_, List.getElem?_eq_getElem (by rw [HLP.out]; exact hlt)⟩
        obtain ⟨z0, hz0⟩ : ∃ y, p[0]? = some y := ⟨_, List.getElem?_eq_getElem (by rw [HLP.out]; omega)⟩
        obtain ⟨b, off, hA2, hb2, _⟩ := ints_get HI3.out (show i < (p.map fun (x : Nat) => (x : Int)).length by rw [List.length_map, HLP.out]; exact hlt)
        subst hA2
        have HC : Hid (∀ w' (j t : Nat), Ext w3 w' → p[j]? = some t → w'.cell? ⟨b, off + j, none⟩ = some (.int .i64 (t : Int))) := fun w' j t hw hj => by
          rcases HI3.out with h0 | ⟨b', o', he, hb', hev⟩
          · simp at h0; subst h0; simp at hj
          · simp at he
            obtain ⟨rfl, rfl⟩ := he
            exact (hw.cell (p := ⟨b, _, none⟩) hb').trans (hev j _ (by rw [List.getElem?_map, hj]; rfl))
        have HON := Lib.hid (HRI.out.once i y hy)
        have HXr := Lib.hid hwr.out
        have HHAS : Hid (∀ w', Ext wr w' → Calls Tryd.prog 32 #[.slice (some ⟨b, off, none⟩) i c2, .int .i64 (y : Int)] w' fun e w'' => e = .returned (.bool false) ∧ Below w'.heap.size w' w'') := fun w' hw => has_not (HI3.out.ext (Ext.trans HXr.out hw)) (by rw [HLP.out]; omega) (by rw [HLP.out]; omega) HON.out
        have cy0 := HC.out wr i y HXr.out hy
        have cy := fun d os => HC.out _ i y (Ext.trans HXr.out (below_regrown wr d os)) hy
        have cz0 := HC.out wr 0 z0 HXr.out hz0
        simp only [Nat.add_zero] at cz0
        obtain ⟨z, hz⟩ : ∃ z, (i + 1 < L → p[i + 1]? = some z) ∧ (¬ i + 1 < L → z = z0) ∧ PD.adj l y z ∧ DF.Go2 l y z := by
          by_cases h : i + 1 < L
          · obtain ⟨z, hz⟩ : ∃ z, p[i + 1]? = some z := ⟨_, List.getElem?_eq_getElem (by rw [HLP.out]; exact h)⟩
            exact ⟨z, fun _ => hz, fun w => absurd h w, HRI.out.on i y z hy hz⟩
          · have e : i = p.length - 1 := by rw [HLP.out]; omega
            exact ⟨z0, fun w => absurd w h, fun _ => rfl, HRI.out.back y z0 (by rw [← e]; exact hy) hz0⟩
        obtain ⟨hz1, hz2, hz3, hz4⟩ := hz
        have hin := adj_ek' HOK.out hz3
        have hout : AK.ek y z ∉ x := fun hm => by
          rw [ek_ek] at hm
          exact (HBX.out.1.edb y z hz3).1 hm hz4
        have HPL : Hid (∀ w', Ext wr w' → Calls Tryd.prog 29 #[.slice A m c, .int .i64 (y : Int), .int .i64 (z : Int)] w' fun e w'' => e = .returned (.int .i64 (RF.placeV (RF.place l (AK.ek y z)))) ∧ Below w'.heap.size w' w'') := fun w' hw' => place_any w' A m c l y z HL.out (by omega) (H.out.ext (Ext.trans HX3.out (Ext.trans HXr.out hw')))
        have HPX : Hid (∀ w', Ext wr w' → Calls Tryd.prog 29 #[.slice Ax lx cx, .int .i64 (y : Int), .int .i64 (z : Int)] w' fun e w'' => e = .returned (.int .i64 (RF.placeV (RF.place x (AK.ek y z)))) ∧ Below w'.heap.size w' w'') := fun w' hw' => place_any w' Ax lx cx x y z HLX.out (by omega) (HEX.out.ext (Ext.trans HXr.out hw'))
        have q1 := pl_in hin
        have q2 := pl_out hout
        obtain ⟨pl, hpl⟩ : ∃ t, RF.placeV (RF.place l (AK.ek y z)) = t := ⟨_, rfl⟩
        obtain ⟨px, hpx⟩ : ∃ t, RF.placeV (RF.place x (AK.ek y z)) = t := ⟨_, rfl⟩
        rw [hpl] at HPL q1
        rw [hpx] at HPX q2
        have q3 : ¬ pl < 0 := by omega
        have q4 : decide (pl < 0) = false := by simpa using q3
        have q5 : ¬ 0 ≤ px := by omega
        have q6 : decide (0 ≤ px) = false := by simpa using q5
        have HZ1 := Lib.hid hz1
        have HZ2 := Lib.hid hz2
        have s1 : IntKind.i64.wrap ((i : Int) + 1) = (i : Int) + 1 := IntWalk.i64_in _ (by omega)
        clear hy hz0 hz1 hz2 hz3 hz4 hin hout hpl hpx hwr
        by_cases hn : i + 1 < L
        · have t1 : (i : Int) + 1 < (L : Int) := by omega
          have t2 : ((i : Int) + 1).toNat = i + 1 := by omega
          have t3 : (0 : Int) ≤ (i : Int) + 1 := by omega
          have cz := HC.out wr (i + 1) z HXr.out (HZ1.out hn)
          go_wp2
          refine wp_region_quiet_below (by kernel_rfl) (by kernel_rfl) ?_
          repeat (go_big_quiet_step (fail))
          go_big_quiet_step ((go_at_call 29; exact Calls.regrown_of (HPL.out _ (below_regrown wr _ _))))
          repeat (go_big_quiet_step (fail))
          go_big_quiet_step ((go_at_call 32; exact Calls.regrown_of (HHAS.out _ (below_regrown wr _ _))))
          repeat (go_big_quiet_step (fail))
          go_big_quiet_step ((go_at_call 29; exact Calls.regrown_of (HPX.out _ (below_regrown wr _ _))))
          repeat (go_big_quiet_step (fail))
          refine wpQuiet_nil ?_
          intro _ hw'
          obtain ⟨⟨dq, osq⟩, hw''⟩ := hw'
          subst hw''
          have HN : Hid (Ext w3 (Go.Sort.grow (redrawn wr dq) osq)) := Ext.trans HXr.out (below_regrown wr dq osq)
          clear cz cy cy0 cz0 HHAS HPL HPX HC
          go_wp2
          go_roundw
          case rel => exact ⟨i + 1, by omega, by go_num, HN.out⟩
          case measure => simp [intOf]; omega
        · have t1 : ¬ (i : Int) + 1 < (L : Int) := by omega
          obtain rfl := HZ2.out hn
          go_wp2
          refine wp_region_quiet_below (by kernel_rfl) (by kernel_rfl) ?_
          repeat (go_big_quiet_step (fail))
          go_big_quiet_step ((go_at_call 29; exact Calls.regrown_of (HPL.out _ (below_regrown wr _ _))))
          repeat (go_big_quiet_step (fail))
          go_big_quiet_step ((go_at_call 32; exact Calls.regrown_of (HHAS.out _ (below_regrown wr _ _))))
          repeat (go_big_quiet_step (fail))
          go_big_quiet_step ((go_at_call 29; exact Calls.regrown_of (HPX.out _ (below_regrown wr _ _))))
          repeat (go_big_quiet_step (fail))
          refine wpQuiet_nil ?_
          intro _ hw'
          obtain ⟨⟨dq, osq⟩, hw''⟩ := hw'
          subst hw''
          have HN : Hid (Ext w3 (Go.Sort.grow (redrawn wr dq) osq)) := Ext.trans HXr.out (below_regrown wr dq osq)
          clear cy cy0 cz0 HHAS HPL HPX HC
          go_wp2
          go_roundw
          case rel => exact ⟨i + 1, by omega, by go_num, HN.out⟩
          case measure => simp [intOf]; omega
      · have HE : Hid (Ext w wr) := Ext.trans HX3.out hwr.out
        clear hwr
        go_wp2
        go_ret
        exact ⟨rfl, HE.out⟩
end Go.Proofs.YtakjakglkfhaaaaDoor

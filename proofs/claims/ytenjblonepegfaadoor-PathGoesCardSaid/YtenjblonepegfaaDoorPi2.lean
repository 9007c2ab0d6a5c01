/-
  PathIs' walk. Conditions: the edges lie in memory as 'EdsAt' says; errors.errorType's cell.
-/
import Derived.Test.YtenjblonepegfaaDoorPc4
import Derived.Test.YtenjblonepegfaaDoorPi1
import Derived.Test.YtenjblonepegfaaDoorTd2
namespace Go.Proofs.YtenjblonepegfaaDoor
open Go Go.RowKit
set_option linter.unusedVariables false

theorem same_err (w : World) (x : Int) (hg : Td.Door w) : Calls Tryd.prog 11 #[errOf x, .int .i64 x] w fun e w' => e = .returned (.bool true) ∧ Ext w w' := by
  by_cases h : x = 0
  · subst h; rw [errOf_0]; exact same_nil w 0 true rfl
  · rw [errOf_ne h]; exact same_errno w x x hg true (by simp)
theorem natsV_ints {w : World} {A : Option Addr} {c : Nat} {p : List Nat} (h : w.ownsRow 0 3 1 (.slice A p.length c) p.length (natsV p)) : IntsAt w A (p.map fun (x : Nat) => (x : Int)) := by
  have : natsV p = (p.map fun (x : Nat) => (x : Int)).map (Value.int .i64) := by simp [natsV]
  rw [this] at h
  exact (IntsAt.of_own h).1
theorem ckF_err {n : Int} {l : List AK.Ed} {xs : List Int} (h : (edgF n l).2 ≠ 0) : ckF n l xs = (edgF n l).2 := by unfold ckF; rw [if_pos h]
theorem ckF_bad {n : Int} {l : List AK.Ed} {xs : List Int} (h : (edgF n l).2 = 0) (hb : xs.any (badN n) = true) : ckF n l xs = 1 := by unfold ckF; rw [if_neg (by simpa using h), if_pos hb]
theorem ckF_ok {n : Int} {l : List AK.Ed} {xs : List Int} (h : (edgF n l).2 = 0) (hb : xs.any (badN n) = false) : ckF n l xs = 0 := by unfold ckF; rw [if_neg (by simpa using h), if_neg (by rw [hb]; simp)]
/-- What Far leaves where there is a fault. -/
theorem PFarPost.err {w w' : World} {n a : Int} {l : List AK.Ed} {e : Ending} {x : Int} (h : PFarPost w n l a e w') (hx : ckF n l [a] = x) (h0 : x ≠ 0) : e = .returned (.tuple #[.slice none 0 0, errOf x]) ∧ Ext w w' := by
  obtain ⟨h1, ⟨_, h2⟩ | ⟨k, z, h2, _⟩⟩ := h
  · exact ⟨by rw [h2, hx], h1⟩
  · rw [hx] at h2; exact absurd h2 h0
theorem ShPost.err {w w' : World} {n a b : Int} {l : List AK.Ed} {e : Ending} {x : Int} (h : ShPost w n l a b e w') (hx : ckF n l [a, b] = x) (h0 : x ≠ 0) : e = .returned (.tuple #[.slice none 0 0, errOf x]) ∧ Ext w w' := by
  obtain ⟨h1, ⟨_, h2⟩ | ⟨k, x', y', d, h2, _⟩⟩ := h
  · exact ⟨by rw [h2, hx], h1⟩
  · rw [hx] at h2; exact absurd h2 h0
theorem PFarPost.ok {w w' : World} {k z : Nat} {l : List AK.Ed} {e : Ending} (h : PFarPost w k l z e w') (hx : ckF k l [(z : Int)] = 0) : ∃ gd c d, e = .returned (.tuple #[.slice (some ⟨gd, 0, none⟩) k c, .nilIface]) ∧ PD.IsDist k l z d ∧ DRw w k gd c d w' := by
  obtain ⟨h1, ⟨h2, _⟩ | ⟨k', z', h2, h3, h4, h5⟩⟩ := h
  · exact absurd hx h2
  · have e1 : k' = k := by omega
    have e2 : z' = z := by omega
    subst e1; subst e2; exact h5
theorem ShPost.ok {w w' : World} {k x y : Nat} {l : List AK.Ed} {e : Ending} (h : ShPost w k l x y e w') (hx : ckF k l [(x : Int), (y : Int)] = 0) : Ext w w' ∧ ∃ d, PD.IsDist k l y d ∧
      ((PD.g d x < 0 ∧ e = .returned (.tuple #[.slice none 0 0, errOf 4])) ∨
       (0 ≤ PD.g d x ∧ ∃ A c p, e = .returned (.tuple #[.slice A p.length c, .nilIface]) ∧ PD.Way k l d x p ∧ w'.ownsRow 0 3 1 (.slice A p.length c) p.length (natsV p) ∧ p.length ≤ 100)) := by
  obtain ⟨h1, ⟨h2, _⟩ | ⟨k', x', y', d, h2, h3, h4, h5, h6, h7⟩⟩ := h
  · exact absurd hx h2
  · have e1 : k' = k := by omega
    have e2 : x' = x := by omega
    have e3 : y' = y := by omega
    subst e1; subst e2; subst e3; exact ⟨h1, d, h6, h7⟩
theorem DRw.ints {w wr : World} {n gd c : Nat} {d : List Int} (h : DRw w n gd c d wr) : IntsAt wr (some ⟨gd, 0, none⟩) d := (IntsAt.of_own h.row).1
set_option maxRecDepth 100000 in
set_option maxHeartbeats 4000000 in
theorem pi_walk (n : Int) (A : Option Addr) (m c : Nat) (l : List AK.Ed) (a b : Int) (w : World) (hd : Td.Door w) (hs : EdsAt w A l ∧ l.length = m ∧ m ≤ c ∧ c ≤ maxLen) :
    Calls Tryd.prog 7 #[.int .i64 n, .slice A m c, .int .i64 a, .int .i64 b] w fun e w' => e = .returned (.bool true) ∧ Below w.heap.size w w' := by
  obtain ⟨hs, hlm, hmc, hcm⟩ := hs
  unfold maxLen at hcm
  have H := Lib.hid hs
  have HD := Lib.hid hd
  have HL := Lib.hid hlm
  have hm63 : m ≤ 9223372036854775807 := by omega
  clear hs hd hlm
  go_enter Tryd.func7, Tryd.ntmps7
  go_wp2_with fail
  refine (edgesFault_any w n A m c l HL.out hm63 H.out).mono ?_
  rintro e w1 ⟨rfl, hx1⟩
  have HX1 : Hid (Ext w w1) := hx1
  clear hx1
  obtain ⟨f, hf⟩ : ∃ x, (edgF n l).2 = x := ⟨_, rfl⟩
  rw [hf]
  generalize (edgF n l).1 = f1
  have HF := Lib.hid hf
  clear hf
  go_wp2_with fail
  refine (rnode_any w1 n a).mono ?_
  rintro e w1' ⟨rfl, rfl⟩
  go_wp2_with fail
  refine (rnode_any w1 n b).mono ?_
  rintro e w1' ⟨rfl, rfl⟩
  by_cases h0 : f = 0
  · subst h0
    obtain ⟨h1, h2, h3, h4⟩ := fine_of HF.out
    obtain ⟨k, rfl⟩ := Int.eq_ofNat_of_zero_le (show 0 ≤ n by omega)
    have HFN : Hid (Fine k l) := ⟨h3, h4⟩
    have hk60 : k ≤ 60 := by omega
    have hk0 : 0 < k := by omega
    clear h1 h2 h3 h4
    by_cases ba : badN k a = true
    · have HC1 : Hid (ckF k l [a] = 1) := ckF_bad HF.out (by simp [ba])
      have HC2 : Hid (ckF k l [a, b] = 1) := ckF_bad HF.out (by simp [ba])
      rw [ba]
      go_wp2_with fail
      refine (pfar_any w1 k A m c l HL.out hm63 (H.out.ext HX1.out) a).mono ?_
      intro e w2 hp
      obtain ⟨rfl, hx2⟩ := hp.err HC1.out (by decide)
      have HX2 : Hid (Ext w w2) := Ext.trans HX1.out hx2
      clear hp hx2
      go_wp2_with fail
      refine (same_err w2 1 (HD.out.new HX2.out)).mono ?_
      rintro e w3 ⟨rfl, hx3⟩
      have HX3 : Hid (Ext w w3) := Ext.trans HX2.out hx3
      clear hx3
      go_wp2_with fail
      refine (ints_any w3 none none 0 0 0 0 [] [] (.inl rfl) (.inl rfl) rfl rfl (by omega) (by omega) true (by simp)).mono ?_
      rintro e w4 ⟨rfl, hx4⟩
      have HX4 : Hid (Ext w w4) := Ext.trans HX3.out hx4
      clear hx4
      go_wp2_with fail
      refine (short_any w4 k A m c l HL.out hm63 (H.out.ext HX4.out) a b).mono ?_
      intro e w5 hp
      obtain ⟨rfl, hx5⟩ := hp.err HC2.out (by decide)
      have HX5 : Hid (Ext w w5) := Ext.trans HX4.out hx5
      clear hp hx5
      go_wp2_with fail
      refine (same_err w5 1 (HD.out.new HX5.out)).mono ?_
      rintro e w6 ⟨rfl, hx6⟩
      have HX6 : Hid (Ext w w6) := Ext.trans HX5.out hx6
      clear hx6
      go_wp2_with fail
      refine (ints_any w6 none none 0 0 0 0 [] [] (.inl rfl) (.inl rfl) rfl rfl (by omega) (by omega) true (by simp)).mono ?_
      rintro e w7 ⟨rfl, hx7⟩
      have HX7 : Hid (Ext w w7) := Ext.trans HX6.out hx7
      clear hx7
      go_wp2
      go_ret
      exact ⟨rfl, HX7.out⟩
    · have hxa : ∃ x : Nat, a = (x : Int) ∧ x < k := by
        simp [badN] at ba
        obtain ⟨z, hz⟩ := Int.eq_ofNat_of_zero_le ba.1
        exact ⟨z, hz, by omega⟩
      obtain ⟨x, rfl, hxk⟩ := hxa
      have ba' : badN k x = false := by simpa using ba
      have HC1 : Hid (ckF k l [(x : Int)] = 0) := ckF_ok HF.out (by simp [ba'])
      rw [ba']
      by_cases bb : badN k b = true
      · have HC2 : Hid (ckF k l [(x : Int), b] = 1) := ckF_bad HF.out (by simp [bb])
        rw [bb]
        go_wp2_with fail
        refine (farof_any w1 k x A m c l HL.out (H.out.ext HX1.out) HFN.out hxk hk60).mono ?_
        rintro e w2 ⟨gd, cd, d, rfl, hd, hr⟩
        have HX2 : Hid (Ext w w2) := Ext.trans HX1.out hr.ext
        have HD2 := Lib.hid hd
        have HI2 := Lib.hid hr.ints
        clear hd hr
        go_wp2_with fail
        refine (pfar_any w2 k A m c l HL.out hm63 (H.out.ext HX2.out) x).mono ?_
        intro e w3 hp
        have hx3 := hp.1
        obtain ⟨gd3, cd3, d3, rfl, hd3, hr3⟩ := hp.ok HC1.out
        have e3 : d3 = d := PD.dist_unique hd3 HD2.out
        subst e3
        have HX3 : Hid (Ext w w3) := Ext.trans HX2.out hx3
        have HI23 : Hid (IntsAt w3 (some ⟨gd, 0, none⟩) d3) := HI2.out.ext hx3
        have HI3 := Lib.hid hr3.ints
        have hdl : d3.length = k := hd3.len
        have HDL := Lib.hid hdl
        clear hp hx3 hd3 hr3 HI2 hdl
        go_wp2_with fail
        refine (same_err w3 0 (HD.out.new HX3.out)).mono ?_
        rintro e w3b ⟨rfl, hx3b⟩
        have HX3b : Hid (Ext w w3b) := Ext.trans HX3.out hx3b
        have HI23b := Lib.hid (HI23.out.ext hx3b)
        have HI3b := Lib.hid (HI3.out.ext hx3b)
        clear hx3b HI23 HI3
        go_wp2_with fail
        refine (ints_any w3b (some ⟨gd3, 0, none⟩) (some ⟨gd, 0, none⟩) k k cd3 cd d3 d3 HI3b.out HI23b.out HDL.out HDL.out (by omega) (by omega) true (by simp)).mono ?_
        rintro e w4 ⟨rfl, hx4⟩
        have HX4 : Hid (Ext w w4) := Ext.trans HX3b.out hx4
        clear hx4
        go_wp2_with fail
        refine (short_any w4 k A m c l HL.out hm63 (H.out.ext HX4.out) x b).mono ?_
        intro e w5 hp
        obtain ⟨rfl, hx5⟩ := hp.err HC2.out (by decide)
        have HX5 : Hid (Ext w w5) := Ext.trans HX4.out hx5
        clear hp hx5
        go_wp2_with fail
        refine (same_err w5 1 (HD.out.new HX5.out)).mono ?_
        rintro e w6 ⟨rfl, hx6⟩
        have HX6 : Hid (Ext w w6) := Ext.trans HX5.out hx6
        clear hx6
        go_wp2_with fail
        refine (ints_any w6 none none 0 0 0 0 [] [] (.inl rfl) (.inl rfl) rfl rfl (by omega) (by omega) true (by simp)).mono ?_
        rintro e w7 ⟨rfl, hx7⟩
        have HX7 : Hid (Ext w w7) := Ext.trans HX6.out hx7
        clear hx7
        go_wp2
        go_ret
        exact ⟨rfl, HX7.out⟩
      · have hyb : ∃ y : Nat, b = (y : Int) ∧ y < k := by
          simp [badN] at bb
          obtain ⟨z, hz⟩ := Int.eq_ofNat_of_zero_le bb.1
          exact ⟨z, hz, by omega⟩
        obtain ⟨y, rfl, hyk⟩ := hyb
        have bb' : badN k y = false := by simpa using bb
        have HC2 : Hid (ckF k l [(x : Int), (y : Int)] = 0) := ckF_ok HF.out (by simp [ba', bb'])
        rw [bb']
        go_wp2_with fail
        refine (farof_any w1 k x A m c l HL.out (H.out.ext HX1.out) HFN.out hxk hk60).mono ?_
        rintro e w2 ⟨gd, cd, d, rfl, hd, hr⟩
        have HX2 : Hid (Ext w w2) := Ext.trans HX1.out hr.ext
        have HD2 := Lib.hid hd
        have HI2 := Lib.hid hr.ints
        clear hd hr
        go_wp2_with fail
        refine (pfar_any w2 k A m c l HL.out hm63 (H.out.ext HX2.out) x).mono ?_
        intro e w3 hp
        have hx3 := hp.1
        obtain ⟨gd3, cd3, d3, rfl, hd3, hr3⟩ := hp.ok HC1.out
        have e3 : d3 = d := PD.dist_unique hd3 HD2.out
        subst e3
        have HX3 : Hid (Ext w w3) := Ext.trans HX2.out hx3
        have HI23 : Hid (IntsAt w3 (some ⟨gd, 0, none⟩) d3) := HI2.out.ext hx3
        have HI3 := Lib.hid hr3.ints
        have hdl : d3.length = k := hd3.len
        have HDL := Lib.hid hdl
        clear hp hx3 hd3 hr3 HI2 hdl
        go_wp2_with fail
        refine (same_err w3 0 (HD.out.new HX3.out)).mono ?_
        rintro e w3b ⟨rfl, hx3b⟩
        have HX3b : Hid (Ext w w3b) := Ext.trans HX3.out hx3b
        have HI23b := Lib.hid (HI23.out.ext hx3b)
        have HI3b := Lib.hid (HI3.out.ext hx3b)
        clear hx3b HI23 HI3
        go_wp2_with fail
        refine (ints_any w3b (some ⟨gd3, 0, none⟩) (some ⟨gd, 0, none⟩) k k cd3 cd d3 d3 HI3b.out HI23b.out HDL.out HDL.out (by omega) (by omega) true (by simp)).mono ?_
        rintro e w4 ⟨rfl, hx4⟩
        have HX4 : Hid (Ext w w4) := Ext.trans HX3b.out hx4
        clear hx4
        go_wp2_with fail
        refine (shortof_any w4 k x y A m c l HL.out (H.out.ext HX4.out) HFN.out hxk hyk hk60).mono ?_
        rintro e w5 ⟨hx5, dy, hdy, ⟨hneg, rfl⟩ | ⟨hpos, A5, c5, p5, rfl, hw5, ho5, hl5⟩⟩
        · have HX5 : Hid (Ext w w5) := Ext.trans HX4.out hx5
          have HDY := Lib.hid hdy
          have HNEG := Lib.hid hneg
          clear hx5 hdy hneg
          go_wp2_with fail
          refine (short_any w5 k A m c l HL.out hm63 (H.out.ext HX5.out) x y).mono ?_
          intro e w6 hp
          obtain ⟨hx6, d6, hd6, h6⟩ := hp.ok HC2.out
          have e6 : d6 = dy := PD.dist_unique hd6 HDY.out
          subst e6
          obtain rfl : e = .returned (.tuple #[.slice none 0 0, errOf 4]) := by
            rcases h6 with ⟨_, h⟩ | ⟨h, _⟩
            · exact h
            · have := HNEG.out; omega
          have HX6 : Hid (Ext w w6) := Ext.trans HX5.out hx6
          clear hp hx6 hd6 h6
          go_wp2_with fail
          refine (same_err w6 4 (HD.out.new HX6.out)).mono ?_
          rintro e w7 ⟨rfl, hx7⟩
          have HX7 : Hid (Ext w w7) := Ext.trans HX6.out hx7
          clear hx7
          go_wp2_with fail
          refine (ints_any w7 none none 0 0 0 0 [] [] (.inl rfl) (.inl rfl) rfl rfl (by omega) (by omega) true (by simp)).mono ?_
          rintro e w8 ⟨rfl, hx8⟩
          have HX8 : Hid (Ext w w8) := Ext.trans HX7.out hx8
          clear hx8
          go_wp2
          go_ret
          exact ⟨rfl, HX8.out⟩
        · have HX5 : Hid (Ext w w5) := Ext.trans HX4.out hx5
          have HDY := Lib.hid hdy
          have HPOS := Lib.hid hpos
          have HW5 := Lib.hid hw5
          have HI5 := Lib.hid (natsV_ints ho5)
          clear hx5 hdy hpos hw5 ho5
          go_wp2_with fail
          refine (short_any w5 k A m c l HL.out hm63 (H.out.ext HX5.out) x y).mono ?_
          intro e w6 hp
          obtain ⟨hx6, d6, hd6, h6⟩ := hp.ok HC2.out
          have e6 : d6 = dy := PD.dist_unique hd6 HDY.out
          subst e6
          rcases h6 with ⟨h, _⟩ | ⟨_, A6, c6, p6, rfl, hw6, ho6, _⟩
          · have := HPOS.out; omega
          have ep : p6 = p5 := PD.Way.unique hw6 HW5.out
          subst ep
          have HX6 : Hid (Ext w w6) := Ext.trans HX5.out hx6
          have HI56 := Lib.hid (HI5.out.ext hx6)
          have HI6 := Lib.hid (natsV_ints ho6)
          clear hp hx6 hd6 hw6 ho6 HI5
          go_wp2_with fail
          refine (same_err w6 0 (HD.out.new HX6.out)).mono ?_
          rintro e w7 ⟨rfl, hx7⟩
          have HX7 : Hid (Ext w w7) := Ext.trans HX6.out hx7
          have HI57 := Lib.hid (HI56.out.ext hx7)
          have HI67 := Lib.hid (HI6.out.ext hx7)
          clear hx7 HI56 HI6
          go_wp2_with fail
          refine (ints_any w7 A6 A5 p6.length p6.length c6 c5 _ _ HI67.out HI57.out (by simp) (by simp) (by omega) (by omega) true (by simp)).mono ?_
          rintro e w8 ⟨rfl, hx8⟩
          have HX8 : Hid (Ext w w8) := Ext.trans HX7.out hx8
          clear hx8
          go_wp2
          go_ret
          exact ⟨rfl, HX8.out⟩
  · have HC1 : Hid (ckF n l [a] = f) := by rw [Hid, ckF_err (by rw [HF.out]; exact h0)]; exact HF.out
    have HC2 : Hid (ckF n l [a, b] = f) := by rw [Hid, ckF_err (by rw [HF.out]; exact h0)]; exact HF.out
    have hf0 : (f == 0) = false := by simpa using h0
    go_wp2_with fail
    refine (pfar_any w1 n A m c l HL.out hm63 (H.out.ext HX1.out) a).mono ?_
    intro e w2 hp
    obtain ⟨rfl, hx2⟩ := hp.err HC1.out h0
    have HX2 : Hid (Ext w w2) := Ext.trans HX1.out hx2
    clear hp hx2
    go_wp2_with fail
    refine (same_err w2 f (HD.out.new HX2.out)).mono ?_
    rintro e w3 ⟨rfl, hx3⟩
    have HX3 : Hid (Ext w w3) := Ext.trans HX2.out hx3
    clear hx3
    go_wp2_with fail
    refine (ints_any w3 none none 0 0 0 0 [] [] (.inl rfl) (.inl rfl) rfl rfl (by omega) (by omega) true (by simp)).mono ?_
    rintro e w4 ⟨rfl, hx4⟩
    have HX4 : Hid (Ext w w4) := Ext.trans HX3.out hx4
    clear hx4
    go_wp2_with fail
    refine (short_any w4 n A m c l HL.out hm63 (H.out.ext HX4.out) a b).mono ?_
    intro e w5 hp
    obtain ⟨rfl, hx5⟩ := hp.err HC2.out h0
    have HX5 : Hid (Ext w w5) := Ext.trans HX4.out hx5
    clear hp hx5
    go_wp2_with fail
    refine (same_err w5 f (HD.out.new HX5.out)).mono ?_
    rintro e w6 ⟨rfl, hx6⟩
    have HX6 : Hid (Ext w w6) := Ext.trans HX5.out hx6
    clear hx6
    go_wp2_with fail
    refine (ints_any w6 none none 0 0 0 0 [] [] (.inl rfl) (.inl rfl) rfl rfl (by omega) (by omega) true (by simp)).mono ?_
    rintro e w7 ⟨rfl, hx7⟩
    have HX7 : Hid (Ext w w7) := Ext.trans HX6.out hx7
    clear hx7
    go_wp2
    go_ret
    exact ⟨rfl, HX7.out⟩
end Go.Proofs.YtenjblonepegfaaDoor

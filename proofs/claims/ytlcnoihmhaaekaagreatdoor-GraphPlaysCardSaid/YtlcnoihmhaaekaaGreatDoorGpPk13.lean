/-
  Any edges that come and go: the walk of GraphPlays. Conditions: the steps are read as 'QStepsAt' says; the door.
-/
import Derived.Test.YtlcnoihmhaaekaaGreatDoorGpPk12
import Derived.Deep.DeepCutAuto
namespace Go.Proofs.YtlcnoihmhaaekaaGreatDoor
open Go Go.RowKit SQ TR DF PD PT
set_option linter.unusedVariables false

/-- The graph beside the reference's row. -/
structure GpS (w wr : World) (G : GrP) (n N : Nat) (A : List AK.Ed) (f : AK.Ed → GM.St) (Ax : Option Addr) (c : Nat) : Prop where
  g : GcS w wr G n N A f
  ed : EdsAt wr Ax A
  nd : A ≠ [] → ∀ x, Ax = some x → ¬ G.T x.block
  cap : A.length ≤ c ∧ c ≤ maxLen
section
variable {w wr w' w4 : World} {G G' : GrP} {n N N' : Nat} {A L : List AK.Ed} {f f' : AK.Ed → GM.St} {Ax A4 : Option Addr} {c c4 : Nat}
theorem GpS.moved (h : GpS w wr G n N A f Ax c) (hx : Ext wr w') : GpS w w' G n N A f Ax c := ⟨h.g.moved hx, h.ed.ext hx, h.nd, h.cap⟩
theorem GpS.mono (h : GpS w wr G n N A f Ax c) (hN : N ≤ N') : GpS w wr G n N' A f Ax c := ⟨h.g.mono hN, h.ed, h.nd, h.cap⟩
/-- Another row is there; then the graph is turned. -/
theorem GpS.put (h : GpS w wr G n N A f Ax c) (hx : Ext wr w4) (hd : DRow w4 (.slice A4 L.length c4) L) (hn : ∀ j, (Value.slice A4 L.length c4).ownBlock = some j → wr.heap.size ≤ j) (h' : GrI w' G' n N' L f') (hc : GrC w4 w' G G') : GpS w w' G' n N' L f' A4 c4 := by
  have hed := DRow.eds hd rfl
  have off : L ≠ [] → ∀ x, A4 = some x → wr.heap.size ≤ x.block ∧ x.block < w4.heap.size := fun hne x hA => by
    refine ⟨hn x.block (by subst hA; rfl), ?_⟩
    rcases hed.1 with h0 | ⟨b, o, he, hb, _⟩
    · exact absurd h0 hne
    · rw [he] at hA; injection hA with hA; subst hA; exact hb
  refine ⟨(h.g.moved hx).step h' hc, hed.1.chg hc.chg (fun hne x hA hs => ?_), fun hne x hA hs => ?_, hed.2, own_capmax (show w4.ownsRow 0 87 2 (.slice A4 L.length c4) L.length (rowsOf edC L) from hd)⟩
  · have h1 := h.g.at_.m.lt _ hs
    have := off hne x hA
    omega
  · have := off hne x hA
    rcases hc.t _ hs with q | q
    · have h1 := h.g.at_.m.ltT _ q
      omega
    · omega
end
/-- The graph that slot 6 points at, and the row. -/
def GpL (w wr : World) (g0 n i : Nat) (A : List AK.Ed) (Ax : Option Addr) (c : Nat) : Prop := ∃ (G : GrP) (f : AK.Ed → GM.St), G.gb = g0 ∧ GpS w wr G n (n + 4000 * i) A f Ax c ∧ A.length ≤ i
section
variable {w wr w' : World} {g0 n i c : Nat} {A : List AK.Ed} {Ax : Option Addr}
theorem GpL.moved (h : GpL w wr g0 n i A Ax c) (hx : Ext wr w') : GpL w w' g0 n i A Ax c := by obtain ⟨G, f, h1, h2, h3⟩ := h; exact ⟨G, f, h1, h2.moved hx, h3⟩
theorem GpL.ext (h : GpL w wr g0 n i A Ax c) : Ext w wr := by obtain ⟨G, f, _, h, _⟩ := h; exact h.g.ext
theorem GpL.next (h : GpL w wr g0 n i A Ax c) : GpL w wr g0 n (i + 1) A Ax c := by obtain ⟨G, f, h1, h2, h3⟩ := h; exact ⟨G, f, h1, h2.mono (by omega), by omega⟩
theorem gp_step_ext {w w' : World} (hx : Ext w w') : ∀ k cs, Blk w k 34 cs → Blk w' k 34 cs := fun k cs hb => hb.chg (Chg.of_below hx) (by have := hb.lt; omega)
theorem gp_step_chg {G G' : GrP} {N : Nat} {f : AK.Ed → GM.St} (h : GrI wr G n N A f) (hc : GrC wr w' G G') : ∀ k cs, Blk wr k 34 cs → Blk w' k 34 cs := fun k cs hb => hb.chg hc.chg (fun hs => h.m.notyp (by decide) hb (.inl hs))
/-- Add with a fault. -/
theorem GpL.add_bad (h : GpL w wr g0 n i A Ax c) (hi : i < 60) (hn : n ≤ 60) (a b : Int) (ha : in64 a) (hb : in64 b) {k : Nat} (hk : addFault n A a b = k) (hk0 : k ≠ 0) :
    Calls Tryz.prog 13 #[.pointer (some ⟨g0, 0, none⟩), .int .i64 a, .int .i64 b] wr fun e w' => e = .returned (errV k) ∧ Ext wr w' := by
  obtain ⟨G, f, rfl, h2, h3⟩ := h
  exact gadd_bad h2.g.at_ a b ha hb hk hk0
/-- The row has been put anew in w4; now the graph's Add. -/
theorem GpL.add_ok (h : GpL w wr g0 n i A Ax c) (hi : i < 60) (hn : n ≤ 60) (a b : Nat) (hk : addFault n A a b = 0) {w4 : World} (hx : Ext wr w4) {A4 : Option Addr} {c4 : Nat} (hd : DRow w4 (.slice A4 (putE (AK.ek a b) A).length c4) (putE (AK.ek a b) A)) (hn4 : ∀ j, (Value.slice A4 (putE (AK.ek a b) A).length c4).ownBlock = some j → wr.heap.size ≤ j) :
    Calls Tryz.prog 13 #[.pointer (some ⟨g0, 0, none⟩), .int .i64 a, .int .i64 b] w4 fun e w' => e = .returned .nilIface ∧ GpL w w' g0 n (i + 1) (putE (AK.ek a b) A) A4 c4 ∧ (∀ k cs, Blk w4 k 34 cs → Blk w' k 34 cs) := by
  obtain ⟨G, f, rfl, h2, h3⟩ := h
  obtain ⟨k1, k2, k3, k4, k5⟩ := addFault_0 hk
  have h4 := h2.g.moved hx
  refine (gadd_ok h4.at_ (by omega) a b (by omega) (by omega) (by omega) k4 k5).mono ?_
  rintro e w' ⟨s, rfl, q1, q2⟩
  exact ⟨rfl, ⟨G, _, rfl, h2.put hx hd hn4 (q1.mono (by omega)) q2, by rw [putE_length]; omega⟩, gp_step_chg h4.at_ q2⟩
theorem GpL.drop_range (h : GpL w wr g0 n i A Ax c) (a b : Int) (hr : ¬ (0 ≤ a ∧ a < n) ∨ ¬ (0 ≤ b ∧ b < n)) :
    Calls Tryz.prog 15 #[.pointer (some ⟨g0, 0, none⟩), .int .i64 a, .int .i64 b] wr fun e w' => e = .returned (errV 1) ∧ Ext wr w' := by
  obtain ⟨G, f, rfl, h2, h3⟩ := h
  refine (gdrop_range h2.g.at_.m a b hr).mono ?_
  rintro e w' ⟨rfl, rfl⟩
  exact ⟨rfl, Ext.refl _⟩
theorem GpL.drop_none (h : GpL w wr g0 n i A Ax c) (a b : Nat) (ha : a < n) (hb : b < n) (hm : AK.ek (a : Int) b ∉ A) :
    Calls Tryz.prog 15 #[.pointer (some ⟨g0, 0, none⟩), .int .i64 a, .int .i64 b] wr fun e w' => e = .returned (errV 4) ∧ Ext wr w' := by
  obtain ⟨G, f, rfl, h2, h3⟩ := h
  exact gdrop_none h2.g.at_.m a b ha hb hm
theorem GpL.drop_ok (h : GpL w wr g0 n i A Ax c) (hi : i < 60) (hn : n ≤ 60) (a b : Nat) (ha : a < n) (hb : b < n) {k : Nat} (hk : A[k]? = some (AK.ek a b)) {w4 : World} (hx : Ext wr w4) {A4 : Option Addr} {c4 : Nat} (hd : DRow w4 (.slice A4 (A.eraseIdx k).length c4) (A.eraseIdx k)) (hn4 : ∀ j, (Value.slice A4 (A.eraseIdx k).length c4).ownBlock = some j → wr.heap.size ≤ j) :
    Calls Tryz.prog 15 #[.pointer (some ⟨g0, 0, none⟩), .int .i64 a, .int .i64 b] w4 fun e w' => e = .returned .nilIface ∧ GpL w w' g0 n (i + 1) (A.eraseIdx k) A4 c4 ∧ (∀ k cs, Blk w4 k 34 cs → Blk w' k 34 cs) := by
  obtain ⟨G, f, rfl, h2, h3⟩ := h
  have h4 := h2.g.moved hx
  rw [out_cut h2.g.at_.k.up hk] at hd hn4 ⊢
  refine (gdrop_ok h4.at_ (by omega) (by omega) ha hb (List.mem_of_getElem? hk)).mono ?_
  rintro e w' ⟨G', f', rfl, q1, q2, _⟩
  refine ⟨rfl, ⟨G', f', q2.gb, ?_, by have := cutE_len_le (AK.ek a b) A; omega⟩, gp_step_chg h4.at_ q2⟩
  have e1 : n + 4000 * i + 4000 = n + 4000 * (i + 1) := by omega
  rw [e1] at q1
  exact h2.put hx hd hn4 q1 q2
end
theorem pin {l : List AK.Ed} {x : AK.Ed} (h : x ∈ l) : ∃ j : Nat, RF.placeV (RF.place l x) = (j : Int) ∧ l[j]? = some x := by
  cases e : RF.place l x with
  | none => exact absurd h (RF.place_mem.1 e)
  | some i => exact ⟨i, rfl, RF.place_get e⟩
theorem pout {l : List AK.Ed} {x : AK.Ed} (h : x ∉ l) : RF.placeV (RF.place l x) = -1 := by
  rw [RF.place_mem.2 h]; rfl
set_option maxHeartbeats 8000000 in
set_option maxRecDepth 100000 in
theorem gpl_walk (n : Int) (a1 : Option Addr) (len1 cap1 : Nat) (s1 : Nat → QSt) (w : World) (hd : Td.Door w) (hs : QStepsAt w a1 len1 s1 ∧ len1 ≤ cap1 ∧ cap1 ≤ maxLen) :
    Calls Tryz.prog 3 #[.int .i64 n, .slice a1 len1 cap1] w fun e w' => e = .returned (.bool true) ∧ Below w.heap.size w w' := by
  obtain ⟨hs, hlc, hcm⟩ := hs
  unfold maxLen at hcm
  have HSt := Lib.hid hs
  have HD : Hid (∀ W, Ext w W → Td.Door W) := fun W hW => hd.new hW
  clear hs hd
  by_cases hn : n < 1 ∨ 60 < n
  · have hf : nodesF n = 1 := by unfold nodesF; rw [if_pos hn]
    have hnf := nodesFault_any w n
    rw [hf] at hnf
    have HNF := Lib.hid hnf
    clear hf hnf
    go_enter Tryz.func3, Tryz.ntmps3
    go_wp2_with fail
    refine HNF.out.mono ?_
    rintro e w1 ⟨rfl, rfl⟩
    go_wp2_with fail
    refine (gnew_no w n hn).mono ?_
    rintro e w1 ⟨rfl, rfl⟩
    go_wp2_with fail
    refine (same_errno w 1 1 (HD.out w (Ext.refl w)) true (by decide)).mono ?_
    rintro e w2 ⟨rfl, hx2⟩
    have HX := Lib.hid hx2
    clear hx2
    go_wp2
    go_ret
    exact ⟨rfl, HX.out⟩
  obtain ⟨n, rfl⟩ := Int.eq_ofNat_of_zero_le (show 0 ≤ n by omega)
  have hn2 : 1 ≤ n ∧ n ≤ 60 := by omega
  have hf : nodesF n = 0 := by unfold nodesF; rw [if_neg hn]
  have hnf := nodesFault_any w n
  rw [hf] at hnf
  have HNF := Lib.hid hnf
  clear hf hnf hn
  go_enter Tryz.func3, Tryz.ntmps3
  go_wp2_with fail
  refine HNF.out.mono ?_
  rintro e w1 ⟨rfl, rfl⟩
  go_wp2_with fail
  refine (gnew_ok w n hn2).mono ?_
  intro e w1 hp
  obtain ⟨G, rfl, hgc, hx1⟩ := GcS.made (Ext.refl w) hp
  obtain ⟨g0, hg0⟩ : ∃ g, G.gb = g := ⟨_, rfl⟩
  have R1 : Hid (GpL w w1 g0 n 0 [] none 0) := ⟨G, _, hg0, ⟨hgc, .inl rfl, fun h => absurd rfl h, by simp [maxLen]⟩, Nat.le_refl _⟩
  rw [hg0]
  clear hp hgc hx1 hg0 HNF
  go_wp2_with fail
  refine (same_nil w1 0 true (by decide)).mono ?_
  rintro e w2 ⟨rfl, hx2⟩
  have R0 : Hid (GpL w w2 g0 n 0 [] none 0) := R1.out.moved hx2
  clear hx2 R1
  go_wp2
  go_loopw [9, 10] (fun v9 v10 wr => ∃ (k : Nat) (A : List AK.Ed) (Ax : Option Addr) (c : Nat), k ≤ len1 ∧ k ≤ 60 ∧ v10 = .int .i64 k ∧ v9 = .slice Ax A.length c ∧ Hid (GpL w wr g0 n k A Ax c)) (fun _ v10 _ => len1 - (intOf v10).toNat)
  case atStart => exact ⟨0, [], none, 0, Nat.zero_le _, Nat.zero_le _, rfl, rfl, R0.out⟩
  case round =>
    as_aux_lemma =>
    clear R0
    obtain ⟨k, A, Ax, c, hk, hk6, rfl, rfl, HR⟩ := hrel
    by_cases c0 : k < len1 ∧ k < 60
    · obtain ⟨c1, c2⟩ := c0
      have hA60 : A.length ≤ 60 := by
        obtain ⟨G, f, _, _, h⟩ := HR.out
        omega
      rcases HSt.out.ext HR.out.ext with h0 | ⟨b, off, rfl, hlt, hc⟩
      · omega
      obtain ⟨t, x, y, sA, sm, sc, p0, p1, p2, p3, ix, iy⟩ := (hc k c1).cells
      have HI : Hid (in64 x ∧ in64 y) := ⟨ix, iy⟩
      have z0 : (0 : Int) ≤ (k : Int) := by omega
      have z1 : (k : Int) < (len1 : Int) := by omega
      clear hc ix iy hlt
      go_wp2_with fail
      have BG := Lib.hid (Blk.new wr 34 #[.int .i64 t, .int .i64 x, .int .i64 y, .slice sA sm sc])
      have H3 := Lib.hid (HR.out.moved (Ext.alloc wr (.cells #[.int .i64 t, .int .i64 x, .int .i64 y, .slice sA sm sc] 34)))
      obtain ⟨gS, hGe⟩ : ∃ G, wr.heap.size = G := ⟨_, rfl⟩
      rw [hGe] at BG ⊢
      clear hGe
      generalize wr.alloc (.cells #[.int .i64 t, .int .i64 x, .int .i64 y, .slice sA sm sc] 34) = w3 at BG H3 ⊢
      clear HR p0 p1 p2 p3
      have g1 : w3.cell? ⟨gS, 1, none⟩ = some (.int .i64 x) := BG.out.cell 1
      have g2 : w3.cell? ⟨gS, 2, none⟩ = some (.int .i64 y) := BG.out.cell 2
      obtain ⟨ba, hba⟩ : ∃ b : Bool, b = decide (0 ≤ x ∧ x < (n : Int)) := ⟨_, rfl⟩
      obtain ⟨bb, hbb⟩ : ∃ b : Bool, b = decide (0 ≤ y ∧ y < (n : Int)) := ⟨_, rfl⟩
      have HBAe := Lib.hid hba
      have HBBe := Lib.hid hbb
      have HBA : Hid (ba = true ↔ 0 ≤ x ∧ x < (n : Int)) := by rw [hba]; unfold Hid; exact decide_eq_true_iff
      have HBB : Hid (bb = true ↔ 0 ≤ y ∧ y < (n : Int)) := by rw [hbb]; unfold Hid; exact decide_eq_true_iff
      clear hba hbb
      refine (rnode_any w3 n x ba HBAe.out).mono ?_
      rintro e w' ⟨rfl, rfl⟩
      go_wp2_with fail
      refine (rnode_any w3 n y bb HBBe.out).mono ?_
      rintro e w' ⟨rfl, rfl⟩
      clear HBAe HBBe
      go_wp2_with fail
      have hED : EdsAt w3 Ax A := by obtain ⟨G, f, _, h, _⟩ := H3.out; exact h.ed
      refine (place_any w3 Ax A.length c A x y rfl (by omega) hED).mono ?_
      rintro e w4 ⟨rfl, hx4⟩
      obtain ⟨kv, hkv⟩ : ∃ z, RF.placeV (RF.place A (AK.ek x y)) = z := ⟨_, rfl⟩
      rw [hkv]
      have HKV := Lib.hid hkv
      have H4 := Lib.hid (H3.out.moved hx4)
      have BG4 := Lib.hid (gp_step_ext hx4 _ _ BG.out)
      clear hED hx4 hkv H3 BG g1 g2
      obtain ⟨bv, hbv⟩ : ∃ b : Bool, b = (!ba || !bb) := ⟨_, rfl⟩
      obtain ⟨fl, hfl⟩ : ∃ m : Nat, m = if bv then 1 else 0 := ⟨_, rfl⟩
      have HBV := Lib.hid hbv
      have HFL := Lib.hid hfl
      clear hbv hfl
      go_upto_region 15 with fail
      go_cut [76] from 71 to 76 (fun s76 wx => s76 = .bool bv ∧ wx = w4)
      case first =>
        as_aux_lemma =>
        have hbv := HBV.out
        cases ba <;> cases bb <;> (simp at hbv; subst hbv)
        all_goals
          go_wp2
          go_meet
          exact ⟨rfl, rfl⟩
      case rest =>
        as_aux_lemma =>
        obtain ⟨rfl, rfl⟩ := hcut
        go_upto_if 76 with fail
        go_cut [15] from 76 to 76 (fun s15 wx => s15 = .int .i64 (fl : Nat) ∧ wx = wc)
        case first =>
          as_aux_lemma =>
          have hfl := HFL.out
          cases bv <;> (simp at hfl; subst hfl)
          all_goals
            go_wp2
            go_meet
            exact ⟨rfl, rfl⟩
        case rest =>
          as_aux_lemma =>
          obtain ⟨rfl, hw⟩ := hcut
          have hw' := hw.symm
          subst hw'
          have g0' : wc.cell? ⟨gS, 0, none⟩ = some (.int .i64 t) := BG4.out.cell 0
          have g1 : wc.cell? ⟨gS, 1, none⟩ = some (.int .i64 x) := BG4.out.cell 1
          have g2 : wc.cell? ⟨gS, 2, none⟩ = some (.int .i64 y) := BG4.out.cell 2
          have HV : Hid ((fl = 0 ∧ (0 ≤ x ∧ x < (n : Int)) ∧ (0 ≤ y ∧ y < (n : Int))) ∨ (fl = 1 ∧ (¬ (0 ≤ x ∧ x < (n : Int)) ∨ ¬ (0 ≤ y ∧ y < (n : Int))))) := by
            have hbv := HBV.out
            have hfl := HFL.out
            have h1 := HBA.out
            have h2 := HBB.out
            unfold Hid
            cases ba <;> cases bb <;> (simp at hbv; subst hbv; simp at hfl; subst hfl)
            · exact .inr ⟨rfl, .inl (fun q => by have := h1.2 q; cases this)⟩
            · exact .inr ⟨rfl, .inl (fun q => by have := h1.2 q; cases this)⟩
            · exact .inr ⟨rfl, .inr (fun q => by have := h2.2 q; cases this)⟩
            · exact .inl ⟨rfl, h1.1 rfl, h2.1 rfl⟩
          have HTT : Hid (t = 0 ∨ t = 1 ∨ t = 2 ∨ ((t == 0) = false ∧ (t == 1) = false ∧ (t == 2) = false)) := by
            by_cases h0 : t = 0
            · exact .inl h0
            by_cases h1 : t = 1
            · exact .inr (.inl h1)
            by_cases h2 : t = 2
            · exact .inr (.inr (.inl h2))
            exact .inr (.inr (.inr ⟨by simpa using h0, by simpa using h1, by simpa using h2⟩))
          clear HFL HBV
          go_upto_block 2 with fail
          go_cut [8, 9] from 80 to 140 (fun s8 s9 wx => s8 = .bool true ∧ ∃ (A' : List AK.Ed) (Ax' : Option Addr) (c' : Nat), s9 = .slice Ax' A'.length c' ∧ Hid (GpL w wx g0 n (k + 1) A' Ax' c' ∧ Blk wx gS 34 #[.int .i64 t, .int .i64 x, .int .i64 y, .slice sA sm sc]))
          case first =>
            as_aux_lemma =>
            go_upto_if 99 with fail
            obtain ⟨ad, had⟩ : ∃ b : Bool, b = (t == 0 || t == 1 || t == 2) := ⟨_, rfl⟩
            have HAD0 := Lib.hid had
            clear had
            go_cut [99] from 99 to 102 (fun s99 wx => s99 = .bool ad ∧ wx = wc)
            case first =>
              as_aux_lemma =>
              have had := HAD0.out
              rcases HTT.out with rfl | rfl | rfl | ⟨t0, t1, t2⟩
              · simp at had; subst had; go_wp2; go_meet; exact ⟨rfl, rfl⟩
              · simp at had; subst had; go_wp2; go_meet; exact ⟨rfl, rfl⟩
              · simp at had; subst had; go_wp2; go_meet; exact ⟨rfl, rfl⟩
              · rw [t0, t1, t2] at had; simp at had; subst had; go_wp2; go_meet; exact ⟨rfl, rfl⟩
            case rest =>
            as_aux_lemma =>
            obtain ⟨rfl, hw2⟩ := hcut
            have hw3 := hw2.symm
            subst hw3
            have zA : ¬ (200 : Int) ≤ (A.length : Int) := by omega
            have zA2 : decide ((200 : Int) ≤ (A.length : Int)) = false := by simp; omega
            clear HTT HAD0
            rcases HV.out with ⟨rfl, hv1, hv2⟩ | ⟨rfl, hv⟩
            · obtain ⟨x, rfl⟩ := Int.eq_ofNat_of_zero_le hv1.1
              obtain ⟨y, rfl⟩ := Int.eq_ofNat_of_zero_le hv2.1
              have hxn : x < n := by omega
              have hyn : y < n := by omega
              clear hv1 hv2 HV HBA HBB
              have hxi : in64 (x : Int) := HI.out.1
              have hyi : in64 (y : Int) := HI.out.2
              clear HI
              cases ad with
              | true =>
                by_cases hxy : x = y
                · as_aux_lemma =>
                    subst hxy
                    have hF : addFault n A (x : Int) (x : Int) = 2 := by unfold addFault; rw [if_neg (by omega), if_pos rfl]
                    have HAD := Lib.hid (H4.out.add_bad c2 hn2.2 (x : Int) (x : Int) hxi hyi hF (by decide))
                    clear hF HKV hxi hyi
                    go_wp2_with fail
                    refine HAD.out.mono ?_
                    rintro e w5 ⟨rfl, hx5⟩
                    have X5 := Lib.hid hx5
                    clear hx5 HAD
                    go_wp2_with fail
                    refine (same_errno w5 2 2 (HD.out _ (H4.out.ext.trans X5.out)) true (by decide)).mono ?_
                    rintro e w6 ⟨rfl, hx6⟩
                    have X6 : Hid (Ext wc w6) := X5.out.trans hx6
                    clear hx6 X5
                    go_wp2
                    go_meet
                    exact ⟨rfl, A, Ax, c, rfl, (H4.out.moved X6.out).next, gp_step_ext X6.out _ _ BG4.out⟩
                · have qxy : ((x : Int) == (y : Int)) = false := by rw [beq_eq_false_iff_ne]; omega
                  by_cases hm : AK.ek (x : Int) y ∈ A
                  · as_aux_lemma =>
                      obtain ⟨j, hj, _⟩ := pin hm
                      obtain rfl : kv = (j : Int) := by rw [← HKV.out]; exact hj
                      have hF : addFault n A (x : Int) (y : Int) = 6 := by unfold addFault; rw [if_neg (by omega), if_neg (by omega), if_pos hm]
                      have HAD := Lib.hid (H4.out.add_bad c2 hn2.2 (x : Int) (y : Int) hxi hyi hF (by decide))
                      have zj : (0 : Int) ≤ (j : Int) := by omega
                      clear hF HKV hxi hyi hj hm hxy
                      go_wp2_with fail
                      refine HAD.out.mono ?_
                      rintro e w5 ⟨rfl, hx5⟩
                      have X5 := Lib.hid hx5
                      clear hx5 HAD
                      go_wp2_with fail
                      refine (same_errno w5 6 6 (HD.out _ (H4.out.ext.trans X5.out)) true (by decide)).mono ?_
                      rintro e w6 ⟨rfl, hx6⟩
                      have X6 : Hid (Ext wc w6) := X5.out.trans hx6
                      clear hx6 X5
                      go_wp2
                      go_meet
                      exact ⟨rfl, A, Ax, c, rfl, (H4.out.moved X6.out).next, gp_step_ext X6.out _ _ BG4.out⟩
                  · as_aux_lemma =>
                      obtain rfl : kv = -1 := by rw [← HKV.out]; exact pout hm
                      have hF : addFault n A (x : Int) (y : Int) = 0 := by unfold addFault; rw [if_neg (by omega), if_neg (by omega), if_neg hm, if_neg (by omega)]
                      have HF0 := Lib.hid hF
                      have zm : ¬ (0 : Int) ≤ -1 := by omega
                      have hED : EdsAt wc Ax A := by obtain ⟨G, f, _, h, _⟩ := H4.out; exact h.ed
                      have HPU := Lib.hid (rput_any wc Ax A.length c A (x : Int) (y : Int) rfl (by omega) hED)
                      clear hF HKV hxi hyi hm hxy hED
                      go_wp2_with fail
                      refine HPU.out.mono ?_
                      rintro e w5 ⟨A5, c5, rfl, hd5, hx5, hn5⟩
                      have X5 : Hid (Ext wc w5) := hx5
                      have HAD := Lib.hid (H4.out.add_ok c2 hn2.2 x y HF0.out hx5 hd5 hn5)
                      have B5 := Lib.hid (gp_step_ext hx5 _ _ BG4.out)
                      have g1 : w5.cell? ⟨gS, 1, none⟩ = some (.int .i64 (x : Nat)) := B5.out.cell 1
                      have g2 : w5.cell? ⟨gS, 2, none⟩ = some (.int .i64 (y : Nat)) := B5.out.cell 2
                      clear hd5 hx5 hn5 HPU HF0
                      go_wp2_with fail
                      refine HAD.out.mono ?_
                      rintro e w6 ⟨rfl, h6, hs6⟩
                      have H6 : Hid (GpL w w6 g0 n (k + 1) (putE (AK.ek (x : Int) y) A) A5 c5 ∧ Blk w6 gS 34 _) := ⟨h6, hs6 _ _ B5.out⟩
                      clear h6 hs6 HAD X5 B5
                      go_wp2_with fail
                      refine (same_nil w6 0 true (by decide)).mono ?_
                      rintro e w7 ⟨rfl, hx7⟩
                      have H7 : Hid (GpL w w7 g0 n (k + 1) (putE (AK.ek (x : Int) y) A) A5 c5 ∧ Blk w7 gS 34 _) := ⟨H6.out.1.moved hx7, gp_step_ext hx7 _ _ H6.out.2⟩
                      clear hx7 H6
                      go_wp2
                      go_meet
                      exact ⟨rfl, _, A5, c5, rfl, H7.out⟩
              | false =>
                by_cases hm : AK.ek (x : Int) y ∈ A
                · as_aux_lemma =>
                    obtain ⟨j, hj, hjm⟩ := pin hm
                    obtain rfl : kv = (j : Int) := by rw [← HKV.out]; exact hj
                    have HJ := Lib.hid hjm
                    have hjl : j < A.length := (List.getElem?_eq_some_iff.1 hjm).1
                    have zj : ¬ (j : Int) < 0 := by omega
                    obtain ⟨hED, hcap⟩ : EdsAt wc Ax A ∧ A.length ≤ c ∧ c ≤ maxLen := by obtain ⟨G, f, _, h, _⟩ := H4.out; exact ⟨h.ed, h.cap⟩
                    have HPU := Lib.hid (rout_any wc Ax A.length c A j rfl (by omega) hcap.1 hcap.2 hjl hED)
                    clear HKV hxi hyi hj hjm hm hED hcap
                    go_wp2_with fail
                    refine HPU.out.mono ?_
                    rintro e w5 ⟨A5, c5, rfl, hd5, hx5, hn5⟩
                    have HAD := Lib.hid (H4.out.drop_ok c2 hn2.2 x y hxn hyn HJ.out hx5 hd5 hn5)
                    have B5 := Lib.hid (gp_step_ext hx5 _ _ BG4.out)
                    have g1 : w5.cell? ⟨gS, 1, none⟩ = some (.int .i64 (x : Nat)) := B5.out.cell 1
                    have g2 : w5.cell? ⟨gS, 2, none⟩ = some (.int .i64 (y : Nat)) := B5.out.cell 2
                    clear hd5 hx5 hn5 HPU HJ
                    go_wp2_with fail
                    refine HAD.out.mono ?_
                    rintro e w6 ⟨rfl, h6, hs6⟩
                    have H6 : Hid (GpL w w6 g0 n (k + 1) (A.eraseIdx j) A5 c5 ∧ Blk w6 gS 34 _) := ⟨h6, hs6 _ _ B5.out⟩
                    clear h6 hs6 HAD B5
                    go_wp2_with fail
                    refine (same_nil w6 0 true (by decide)).mono ?_
                    rintro e w7 ⟨rfl, hx7⟩
                    have H7 : Hid (GpL w w7 g0 n (k + 1) (A.eraseIdx j) A5 c5 ∧ Blk w7 gS 34 _) := ⟨H6.out.1.moved hx7, gp_step_ext hx7 _ _ H6.out.2⟩
                    clear hx7 H6
                    go_wp2
                    go_meet
                    exact ⟨rfl, _, A5, c5, rfl, H7.out⟩
                · as_aux_lemma =>
                    obtain rfl : kv = -1 := by rw [← HKV.out]; exact pout hm
                    have zm : (-1 : Int) < 0 := by omega
                    have HAD := Lib.hid (H4.out.drop_none x y hxn hyn hm)
                    clear HKV hxi hyi hm
                    go_wp2_with fail
                    refine HAD.out.mono ?_
                    rintro e w5 ⟨rfl, hx5⟩
                    have X5 := Lib.hid hx5
                    clear hx5 HAD
                    go_wp2_with fail
                    refine (same_errno w5 4 4 (HD.out _ (H4.out.ext.trans X5.out)) true (by decide)).mono ?_
                    rintro e w6 ⟨rfl, hx6⟩
                    have X6 : Hid (Ext wc w6) := X5.out.trans hx6
                    clear hx6 X5
                    go_wp2
                    go_meet
                    exact ⟨rfl, A, Ax, c, rfl, (H4.out.moved X6.out).next, gp_step_ext X6.out _ _ BG4.out⟩
            · have hxi : in64 x := HI.out.1
              have hyi : in64 y := HI.out.2
              have HADb : Hid (Calls Tryz.prog 13 #[.pointer (some ⟨g0, 0, none⟩), .int .i64 x, .int .i64 y] wc fun e w' => e = .returned (errV 1) ∧ Ext wc w') := by
                have hF : addFault n A x y = 1 := by unfold addFault; rw [if_pos hv]
                exact H4.out.add_bad c2 hn2.2 x y hxi hyi hF (by decide)
              have HDRb := Lib.hid (H4.out.drop_range x y hv)
              clear hv hxi hyi HV HKV HBA HBB HI
              cases ad with
              | true =>
                as_aux_lemma =>
                    clear HDRb
                    go_wp2_with fail
                    refine HADb.out.mono ?_
                    rintro e w5 ⟨rfl, hx5⟩
                    have X5 := Lib.hid hx5
                    clear hx5 HADb
                    go_wp2_with fail
                    refine (same_errno w5 1 1 (HD.out _ (H4.out.ext.trans X5.out)) true (by decide)).mono ?_
                    rintro e w6 ⟨rfl, hx6⟩
                    have X6 : Hid (Ext wc w6) := X5.out.trans hx6
                    clear hx6 X5
                    go_wp2
                    go_meet
                    exact ⟨rfl, A, Ax, c, rfl, (H4.out.moved X6.out).next, gp_step_ext X6.out _ _ BG4.out⟩
              | false =>
                as_aux_lemma =>
                    clear HADb
                    go_wp2_with fail
                    refine HDRb.out.mono ?_
                    rintro e w5 ⟨rfl, hx5⟩
                    have X5 := Lib.hid hx5
                    clear hx5 HDRb
                    go_wp2_with fail
                    refine (same_errno w5 1 1 (HD.out _ (H4.out.ext.trans X5.out)) true (by decide)).mono ?_
                    rintro e w6 ⟨rfl, hx6⟩
                    have X6 : Hid (Ext wc w6) := X5.out.trans hx6
                    clear hx6 X5
                    go_wp2
                    go_meet
                    exact ⟨rfl, A, Ax, c, rfl, (H4.out.moved X6.out).next, gp_step_ext X6.out _ _ BG4.out⟩
          case rest =>
            as_aux_lemma =>
            obtain ⟨rfl, A', Ax', c', rfl, H5⟩ := hcut
            clear H4 BG4 HKV HTT g0' g1 g2
            obtain ⟨G, f, hG, hS, hl'⟩ := H5.out.1
            subst hG
            have HS := Lib.hid hS
            have HL' := Lib.hid hl'
            have hA' : A'.length ≤ 60 := by omega
            have BG5 := Lib.hid H5.out.2
            have HC : Hid (∀ W, Ext wc W → W.cell? ⟨gS, 1, none⟩ = some (.int .i64 x) ∧ W.cell? ⟨gS, 2, none⟩ = some (.int .i64 y)) := fun W hW => ⟨(gp_step_ext hW _ _ BG5.out).cell 1, (gp_step_ext hW _ _ BG5.out).cell 2⟩
            have HDW : Hid (∀ W, Ext wc W → Td.Door W) := fun W hW => HD.out W (HS.out.g.ext.trans hW)
            clear hS hl' H5
            obtain ⟨hb, hhb⟩ : ∃ b : Bool, b = true ↔ (fl = 0 ∧ AK.ek x y ∈ A') := ⟨decide (fl = 0 ∧ AK.ek x y ∈ A'), decide_eq_true_iff⟩
            obtain ⟨jb, hjb⟩ : ∃ b : Bool, b = true ↔ (fl = 0 ∧ Cn (adj A') x.toNat y.toNat) := by classical exact ⟨decide (fl = 0 ∧ Cn (adj A') x.toNat y.toNat), decide_eq_true_iff⟩
            have HHB := Lib.hid hhb
            have HJB := Lib.hid hjb
            have HHAS : Hid (∀ W, Ext wc W → Calls Tryz.prog 17 #[.pointer (some ⟨G.gb, 0, none⟩), .int .i64 x, .int .i64 y] W fun e w' => e = .returned (.tuple #[.bool hb, errOf (fl : Nat)]) ∧ Ext W w') := fun W hW => by
              rcases HV.out with ⟨e0, hv1, hv2⟩ | ⟨e1, hv⟩
              · subst e0
                obtain ⟨x, rfl⟩ := Int.eq_ofNat_of_zero_le hv1.1
                obtain ⟨y, rfl⟩ := Int.eq_ofNat_of_zero_le hv2.1
                exact ghas_ok (HS.out.g.moved hW).at_.m x y (by omega) (by omega) hb (by cases hb <;> simp_all)
              · subst e1
                have : hb = false := by cases hb <;> simp_all
                subst this
                refine (ghas_range (HS.out.g.moved hW).at_.m x y hv).mono ?_
                rintro e w' ⟨rfl, rfl⟩
                exact ⟨rfl, Ext.refl _⟩
            have HJO : Hid (∀ W, Ext wc W → Calls Tryz.prog 18 #[.pointer (some ⟨G.gb, 0, none⟩), .int .i64 x, .int .i64 y] W fun e w' => e = .returned (.tuple #[.bool jb, errOf (fl : Nat)]) ∧ Ext W w') := fun W hW => by
              rcases HV.out with ⟨e0, hv1, hv2⟩ | ⟨e1, hv⟩
              · subst e0
                obtain ⟨x, rfl⟩ := Int.eq_ofNat_of_zero_le hv1.1
                obtain ⟨y, rfl⟩ := Int.eq_ofNat_of_zero_le hv2.1
                exact gjoined_ok (HS.out.g.moved hW).at_.m x y (by omega) (by omega) jb ((hjb.trans (by simp)).trans HS.out.g.at_.k.joins)
              · subst e1
                have : jb = false := by cases jb <;> simp_all
                subst this
                refine (gjoined_range (HS.out.g.moved hW).at_.m x y hv).mono ?_
                rintro e w' ⟨rfl, rfl⟩
                exact ⟨rfl, Ext.refl _⟩
            have HSE : Hid (∀ (m : Nat) W, Ext wc W → Calls Tryz.prog 9 #[errOf (m : Nat), .int .i64 (m : Nat)] W fun e w' => e = .returned (.bool true) ∧ Ext W w') := fun m W hW => same_err W m m (HDW.out W hW) true (by simp)
            have HPA := Lib.hid (parts_any wc Ax' n A'.length c' A' rfl hn2.1 (by omega) (by omega) HS.out.ed (gr_inn HS.out.g.at_.k.ok))
            clear hhb hjb
            go_wp2_with fail
            refine HPA.out.mono ?_
            rintro e w6 ⟨p, gp, cp, rfl, hrow, hparts, hx6, hgp⟩
            have X6 : Hid (Ext wc w6) := hx6
            have PP := Lib.hid hparts
            have NR : Hid (∀ W, Ext w6 W → NRow W (.slice (some ⟨gp, 0, none⟩) n cp) n p) := fun W hW => own_chg hrow (Chg.of_below hW) (fun j hj => by have := own_lt hrow hj; omega)
            have g1 := (HC.out _ X6.out).1
            have g2 := (HC.out _ X6.out).2
            clear hrow hparts hx6 hgp HPA
            go_wp2_with fail
            refine (HHAS.out _ X6.out).mono ?_
            rintro e w7 ⟨rfl, hx7⟩
            have X7 : Hid (Ext w6 w7) := hx7
            clear hx7 HHAS g1 g2
            go_wp2_with fail
            refine (HSE.out fl _ (X6.out.trans X7.out)).mono ?_
            rintro e w8 ⟨rfl, hx8⟩
            have X8 : Hid (Ext w6 w8) := X7.out.trans hx8
            have g1 := (HC.out _ (X6.out.trans X8.out)).1
            have g2 := (HC.out _ (X6.out.trans X8.out)).2
            clear hx8 X7
            go_wp2_with fail
            refine (HJO.out _ (X6.out.trans X8.out)).mono ?_
            rintro e w9 ⟨rfl, hx9⟩
            have X9 : Hid (Ext w6 w9) := X8.out.trans hx9
            clear hx9 HJO X8 g1 g2
            go_wp2_with fail
            refine (HSE.out fl _ (X6.out.trans X9.out)).mono ?_
            rintro e wa ⟨rfl, hxa⟩
            have Xa : Hid (Ext w6 wa) := X9.out.trans hxa
            clear hxa X9
            go_upto_region 43 with fail
            go_cut [209] from 170 to 209 (fun s209 wx => s209 = .bool false ∧ Hid (Ext w6 wx))
            case first =>
              as_aux_lemma =>
              have hhb := HHB.out
              have hjb := HJB.out
              rcases HV.out with ⟨rfl, hv1, hv2⟩ | ⟨rfl, hv⟩
              · obtain ⟨x, rfl⟩ := Int.eq_ofNat_of_zero_le hv1.1
                obtain ⟨y, rfl⟩ := Int.eq_ofNat_of_zero_le hv2.1
                have hxn : x < n := by omega
                have hyn : y < n := by omega
                obtain ⟨px, hpx⟩ := parts_len PP.out x hxn
                obtain ⟨py, hpy⟩ := parts_len PP.out y hyn
                have hpp := gparts_cn HS.out.g.at_.k.ok PP.out hpx hpy
                obtain ⟨kz, hkz⟩ : ∃ z, RF.placeV (RF.place A' (AK.ek (x : Int) y)) = z := ⟨_, rfl⟩
                have HPL : Hid (∀ W, Ext wa W → Calls Tryz.prog 11 #[.slice Ax' A'.length c', .int .i64 (x : Nat), .int .i64 (y : Nat)] W fun e w' => e = .returned (.int .i64 kz) ∧ Ext W w') := fun W hW => by
                  have q := place_any W Ax' A'.length c' A' (x : Nat) (y : Nat) rfl (by omega) (HS.out.ed.ext ((X6.out.trans Xa.out).trans hW))
                  rw [hkz] at q
                  exact q
                have HCC : Hid (∀ W, Ext wa W → Ext wa W ∧ W.cell? ⟨gS, 1, none⟩ = some (.int .i64 (x : Nat)) ∧ W.cell? ⟨gS, 2, none⟩ = some (.int .i64 (y : Nat)) ∧ W.cell? ⟨gp, x, none⟩ = some (.int .i64 (px : Nat)) ∧ W.cell? ⟨gp, y, none⟩ = some (.int .i64 (py : Nat))) := fun W hW =>
                  ⟨hW, (HC.out _ ((X6.out.trans Xa.out).trans hW)).1, (HC.out _ ((X6.out.trans Xa.out).trans hW)).2, nrow_cell (NR.out _ (Xa.out.trans hW)) hpx hxn, nrow_cell (NR.out _ (Xa.out.trans hW)) hpy hyn⟩
                have u1 := (HCC.out wa (Ext.refl _)).2.1
                have u2 := (HCC.out wa (Ext.refl _)).2.2.1
                have u3 := (HCC.out wa (Ext.refl _)).2.2.2.1
                have u4 := (HCC.out wa (Ext.refl _)).2.2.2.2
                have zx : (x : Int) < (n : Int) := by omega
                have zy : (y : Int) < (n : Int) := by omega
                have hkb : decide (0 ≤ kz) = hb := by
                  by_cases hm : AK.ek (x : Int) y ∈ A'
                  · obtain ⟨j, hj, _⟩ := pin hm
                    have : hb = true := hhb.2 ⟨rfl, hm⟩
                    subst this
                    rw [← hkz, hj]; simp
                  · have : hb = false := by cases hb with | false => rfl | true => exact absurd (hhb.1 rfl).2 hm
                    subst this
                    rw [← hkz, pout hm]; simp
                have hpb : ((px : Int) == (py : Int)) = jb := by
                  by_cases hc : Cn (adj A') x y
                  · have : jb = true := hjb.2 ⟨rfl, by simpa using hc⟩
                    subst this
                    rw [hpp.2 hc]; simp
                  · have : jb = false := by cases jb with | false => rfl | true => exact absurd (by simpa using (hjb.1 rfl).2) hc
                    subst this
                    rw [beq_eq_false_iff_ne]
                    intro e
                    exact hc (hpp.1 (by omega))
                clear hhb hjb hpx hpy hpp hkz hv1 hv2 HHB HJB
                cases hb <;> cases jb
                all_goals
                  go_wp2
                  go_region_held3 (fun W => Ext wa W ∧ W.cell? ⟨gS, 1, none⟩ = some (.int .i64 (x : Nat)) ∧ W.cell? ⟨gS, 2, none⟩ = some (.int .i64 (y : Nat)) ∧ W.cell? ⟨gp, x, none⟩ = some (.int .i64 (px : Nat)) ∧ W.cell? ⟨gp, y, none⟩ = some (.int .i64 (py : Nat)))
                    (exact HCC.out _ (by first | exact Ext.drew _ | assumption | exact fst_ (by assumption) | exact Ext.trans (fst_ (by assumption)) (by assumption)))
                    (first
                      | (go_at_call 11; refine (HPL.out _ (by first | assumption | exact Ext.drew _ | exact fst_ (by assumption))).mono ?_; rintro e wb ⟨rfl, hb7⟩)
                      | fail)
                  rename_i hHeld
                  have XN : Hid (Ext w6 wb) := Xa.out.trans (fst_ hHeld)
                  clear HPL HCC hHeld
                  go_wp2
                  go_meet
                  exact ⟨rfl, XN⟩
              · have : hb = false := by cases hb with | false => rfl | true => exact absurd (hhb.1 rfl).1 (by decide)
                subst this
                have : jb = false := by cases jb with | false => rfl | true => exact absurd (hjb.1 rfl).1 (by decide)
                subst this
                have XN : Hid (∀ nq, Ext w6 (wa.drewN nq)) := fun nq => Xa.out.trans (Ext.drewN wa nq)
                clear hhb hjb
                go_wp2
                go_quiet (fail)
                have XM := Lib.hid (XN.out nq)
                go_wp2
                go_meet
                exact ⟨rfl, XM⟩
            case rest =>
              as_aux_lemma =>
              obtain ⟨rfl, Xb⟩ := hcut
              obtain ⟨fa, sz, HFA⟩ : ∃ fa sz : Nat, Hid ((ba = true ∧ fa = 0 ∧ (0 ≤ x ∧ x < (n : Int)) ∧ sz = (comp n A' x.toNat).length) ∨ (ba = false ∧ fa = 1 ∧ sz = 0 ∧ ¬ (0 ≤ x ∧ x < (n : Int)))) := by
                have h1 := HBA.out
                cases ba with
                | true => exact ⟨0, _, .inl ⟨rfl, rfl, h1.1 rfl, rfl⟩⟩
                | false => exact ⟨1, 0, .inr ⟨rfl, rfl, rfl, fun q => by have := h1.2 q; cases this⟩⟩
              clear Xa
              go_upto_if 210 with fail
              go_cut [15, 23] from 210 to 214 (fun s15 s23 wx => s15 = .int .i64 (fa : Nat) ∧ s23 = .int .i64 (sz : Nat) ∧ Hid (Ext w6 wx))
              case first =>
                as_aux_lemma =>
                rcases HFA.out with ⟨rfl, rfl, hv1, rfl⟩ | ⟨rfl, rfl, rfl, hv⟩
                · obtain ⟨x, rfl⟩ := Int.eq_ofNat_of_zero_le hv1.1
                  have hxn : x < n := by omega
                  obtain ⟨px, hpx⟩ := parts_len PP.out x hxn
                  have HSO := sizeOf_any wc gp cp n p (NR.out _ Xb.out) x px hxn hpx (by omega)
                  rw [gsize_cnt HS.out.g.at_.k.ok PP.out hpx] at HSO
                  have HSO := Lib.hid HSO
                  have u1 := (HC.out _ (X6.out.trans Xb.out)).1
                  clear hv1 hpx
                  go_wp2_with fail
                  refine HSO.out.mono ?_
                  rintro e wd ⟨rfl, hd⟩
                  have XN : Hid (Ext w6 wd) := Xb.out.trans hd
                  clear hd HSO
                  go_wp2
                  go_meet
                  exact ⟨rfl, rfl, XN⟩
                · go_wp2
                  go_meet
                  exact ⟨rfl, rfl, Xb⟩
              case rest =>
                as_aux_lemma =>
                obtain ⟨rfl, rfl, Xc⟩ := hcut
                clear Xb
                have HSZ : Hid (∀ W, Ext w6 W → Calls Tryz.prog 20 #[.pointer (some ⟨G.gb, 0, none⟩), .int .i64 x] W fun e w' => e = .returned (.tuple #[.int .i64 (sz : Nat), errOf (fa : Nat)]) ∧ Ext W w') := fun W hW => by
                  rcases HFA.out with ⟨_, rfl, hv1, rfl⟩ | ⟨_, rfl, rfl, hv⟩
                  · obtain ⟨x, rfl⟩ := Int.eq_ofNat_of_zero_le hv1.1
                    have q := gsize_ok (HS.out.g.moved (X6.out.trans hW)).at_.m x (by omega)
                    rw [comp_joins (HS.out.g.moved (X6.out.trans hW)).at_] at q
                    exact q
                  · refine (gsize_range (HS.out.g.moved (X6.out.trans hW)).at_.m x hv).mono ?_
                    rintro e w' ⟨rfl, rfl⟩
                    exact ⟨rfl, Ext.refl _⟩
                have hszn : (sz : Nat) ≤ 60 := by
                  rcases HFA.out with ⟨_, _, _, rfl⟩ | ⟨_, _, rfl, _⟩
                  · exact Nat.le_trans (by unfold comp; rw [List.length_map]; exact Nat.le_trans (List.length_filter_le _ _) (by simp)) hn2.2
                  · omega
                obtain ⟨L, hL⟩ : ∃ L, (GM.lvl f A' 0).length = L := ⟨_, rfl⟩
                obtain ⟨K, hK⟩ : ∃ K, cntP n p = K := ⟨_, rfl⟩
                have hKL : K + L = n := by rw [← hK, ← hL]; exact gcount HS.out.g.at_ PP.out
                have HPT : Hid (∀ W, Ext w6 W → Calls Tryz.prog 23 #[.pointer (some ⟨G.gb, 0, none⟩)] W fun e w' => e = .returned (.int .i64 ((n : Int) - L)) ∧ Ext W w') := fun W hW => by
                  have q := gparts_any (HS.out.g.moved (X6.out.trans hW)).at_.m HS.out.g.at_.k.ok HS.out.g.at_.k.up (by omega)
                  rwa [hL] at q
                have HCT : Hid (∀ W, Ext w6 W → Calls Tryz.prog 24 #[.slice (some ⟨gp, 0, none⟩) n cp] W fun e w' => e = .returned (.int .i64 (K : Nat)) ∧ Ext W w') := fun W hW => by
                  have q := count_any W (some ⟨gp, 0, none⟩) n cp p (natv_ints (NR.out W hW)).1 (natv_ints (NR.out W hW)).2 (by omega)
                  rwa [hK] at q
                have HGE : Hid (∀ W, Ext w6 W → Calls Tryz.prog 22 #[.pointer (some ⟨G.gb, 0, none⟩)] W (EdgesPost W A')) := fun W hW => gedges_any (HS.out.g.moved (X6.out.trans hW)).at_.m HS.out.g.at_.k.ok HS.out.g.at_.k.up (by omega)
                have hq : (((n : Int) - (L : Int)) != (K : Int)) = false := by simp; omega
                have hz : ((sz : Int) != (sz : Int)) = false := by simp
                obtain ⟨b2, hb2⟩ : ∃ b : Bool, b = true ↔ (fl = 0 ∧ AK.ek x y ∉ A') := ⟨decide (fl = 0 ∧ AK.ek x y ∉ A'), decide_eq_true_iff⟩
                have HB2 := Lib.hid hb2
                obtain ⟨lvx, fl2, HF2, HLE⟩ : ∃ lvx fl2 : Nat, Hid ((b2 = true ∧ fl2 = 4) ∨ (b2 = false ∧ fl2 = fl)) ∧ Hid (∀ W, Ext w6 W → Calls Tryz.prog 25 #[.pointer (some ⟨G.gb, 0, none⟩), .int .i64 x, .int .i64 y] W fun e w' => e = .returned (.tuple #[.int .i64 (lvx : Nat), errOf (fl2 : Nat)]) ∧ Ext W w') := by
                  rcases HV.out with ⟨rfl, hv1, hv2⟩ | ⟨rfl, hv⟩
                  · obtain ⟨x, rfl⟩ := Int.eq_ofNat_of_zero_le hv1.1
                    obtain ⟨y, rfl⟩ := Int.eq_ofNat_of_zero_le hv2.1
                    by_cases hm : AK.ek (x : Int) y ∈ A'
                    · exact ⟨_, 0, .inr ⟨by cases b2 with | false => rfl | true => exact absurd hm (hb2.1 rfl).2, rfl⟩, fun W hW => glevel_ok (HS.out.g.moved (X6.out.trans hW)).at_.m x y (by omega) (by omega) hm⟩
                    · exact ⟨0, 4, .inl ⟨hb2.2 ⟨rfl, hm⟩, rfl⟩, fun W hW => glevel_none (HS.out.g.moved (X6.out.trans hW)).at_.m x y (by omega) (by omega) hm⟩
                  · refine ⟨0, 1, .inr ⟨by cases b2 with | false => rfl | true => exact absurd (hb2.1 rfl).1 (by omega), rfl⟩, fun W hW => ?_⟩
                    refine (glevel_range (HS.out.g.moved (X6.out.trans hW)).at_.m x y hv).mono ?_
                    rintro e w' ⟨rfl, rfl⟩
                    exact ⟨rfl, Ext.refl _⟩
                have u1 := (HC.out _ (X6.out.trans Xc.out)).1
                clear hL hK hKL hb2 HFA
                go_wp2_with fail
                refine (HSZ.out _ Xc.out).mono ?_
                rintro e wd ⟨rfl, hd⟩
                have Xd : Hid (Ext w6 wd) := Xc.out.trans hd
                clear hd HSZ Xc u1
                go_wp2_with fail
                refine (HSE.out fa _ (X6.out.trans Xd.out)).mono ?_
                rintro e we ⟨rfl, he⟩
                have Xe : Hid (Ext w6 we) := Xd.out.trans he
                clear he Xd
                go_wp2_with fail
                refine (HGE.out _ Xe.out).mono ?_
                rintro e wf ⟨A7, c7, rfl, hd7, hx7, _⟩
                have D7 := Lib.hid (DRow.eds hd7 rfl).1
                have Xf : Hid (Ext w6 wf) := Xe.out.trans hx7
                have HSS := Lib.hid (sedges_any wf A7 Ax' A'.length A'.length c7 c' A' A' D7.out (HS.out.ed.ext (X6.out.trans Xf.out)) rfl rfl (by omega) (by omega) true (by simp))
                clear hd7 hx7 HGE Xe
                go_wp2_with fail
                refine HSS.out.mono ?_
                rintro e wg ⟨rfl, hg⟩
                have Xg : Hid (Ext w6 wg) := Xf.out.trans hg
                clear hg HSS Xf D7
                go_wp2_with fail
                refine (HPT.out _ Xg.out).mono ?_
                rintro e wh ⟨rfl, hh⟩
                have Xh : Hid (Ext w6 wh) := Xg.out.trans hh
                clear hh HPT Xg
                go_wp2_with fail
                refine (HCT.out _ Xh.out).mono ?_
                rintro e wi ⟨rfl, hi⟩
                have Xi : Hid (Ext w6 wi) := Xh.out.trans hi
                have u1 := (HC.out _ (X6.out.trans Xi.out)).1
                have u2 := (HC.out _ (X6.out.trans Xi.out)).2
                clear hi HCT Xh
                go_wp2_with fail
                refine (HLE.out _ Xi.out).mono ?_
                rintro e wj ⟨rfl, hj⟩
                have Xj : Hid (Ext w6 wj) := Xi.out.trans hj
                clear hj HLE Xi u1 u2 hq hz
                go_upto_region 56 with fail
                go_cut [266] from 256 to 266 (fun s266 wx => s266 = .bool b2 ∧ Hid (Ext w6 wx))
                case first =>
                  as_aux_lemma =>
                  have hb2 := HB2.out
                  rcases HV.out with ⟨rfl, hv1, hv2⟩ | ⟨rfl, hv⟩
                  · obtain ⟨kz, hkz⟩ : ∃ z, RF.placeV (RF.place A' (AK.ek x y)) = z := ⟨_, rfl⟩
                    have HPL := place_any wj Ax' A'.length c' A' x y rfl (by omega) (HS.out.ed.ext (X6.out.trans Xj.out))
                    rw [hkz] at HPL
                    have HPL := Lib.hid HPL
                    have u1 := (HC.out _ (X6.out.trans Xj.out)).1
                    have u2 := (HC.out _ (X6.out.trans Xj.out)).2
                    have hkb : decide (kz < 0) = b2 := by
                      by_cases hm : AK.ek x y ∈ A'
                      · obtain ⟨j, hj, _⟩ := pin hm
                        have : b2 = false := by cases b2 with | false => rfl | true => exact absurd hm (hb2.1 rfl).2
                        subst this
                        rw [← hkz, hj]; simp
                      · have : b2 = true := hb2.2 ⟨rfl, hm⟩
                        subst this
                        rw [← hkz, pout hm]; rfl
                    clear hb2 hkz hv1 hv2 HB2 HF2
                    go_wp2_with fail
                    refine HPL.out.mono ?_
                    rintro e wk ⟨rfl, hk⟩
                    have Xk : Hid (Ext w6 wk) := Xj.out.trans hk
                    clear hk HPL
                    cases b2
                    all_goals
                      go_wp2
                      go_meet
                      exact ⟨rfl, Xk⟩
                  · have : b2 = false := by cases b2 with | false => rfl | true => exact absurd (hb2.1 rfl).1 (by omega)
                    subst this
                    clear hb2
                    go_wp2
                    go_meet
                    exact ⟨rfl, Xj⟩
                case rest =>
                  as_aux_lemma =>
                  obtain ⟨rfl, Xk⟩ := hcut
                  clear Xj
                  go_upto_if 266 with fail
                  go_cut [16] from 266 to 266 (fun s16 wx => s16 = .int .i64 (fl2 : Nat) ∧ Hid (Ext w6 wx))
                  case first =>
                    as_aux_lemma =>
                    rcases HF2.out with ⟨rfl, rfl⟩ | ⟨rfl, rfl⟩
                    all_goals
                      go_wp2
                      go_meet
                      exact ⟨rfl, Xk⟩
                  case rest =>
                    as_aux_lemma =>
                    obtain ⟨rfl, Xl⟩ := hcut
                    clear Xk
                    go_wp2_with fail
                    refine (HSE.out fl2 _ (X6.out.trans Xl.out)).mono ?_
                    rintro e wm ⟨rfl, hm⟩
                    have HN : Hid (GpL w wm G.gb n (k + 1) A' Ax' c') := ⟨G, f, rfl, HS.out.moved ((X6.out.trans Xl.out).trans hm), HL'.out⟩
                    clear hm Xl
                    go_wp2
                    go_roundw
                    case rel => exact ⟨k + 1, A', Ax', c', by omega, by omega, by go_num, rfl, HN⟩
                    case measure => simp [intOf]; omega
    · have hii : (k < len1 ∧ ¬ k < 60) ∨ ¬ k < len1 := by omega
      clear c0
      rcases hii with ⟨c1, c2⟩ | c1
      all_goals
        go_wp2
        go_ret
        exact ⟨rfl, HR.out.ext⟩
end Go.Proofs.YtlcnoihmhaaekaaGreatDoor

/-
  A bridge stands in each tree: the walk of TopTree. Conditions: the events are read as 'EvRow' says, the numbers as 'IntsAt' says.
-/
import Derived.Test.YtckcbfnffmohgaaGreatTt50
import Derived.Test.YtckcbfnffmohgaaGreatTt52
import Derived.Test.YtckcbfnffmohgaaGreatTt47
import Derived.Test.YtckcbfnffmohgaaGreatTt45
import Derived.Test.YtckcbfnffmohgaaGreatTt38
import Derived.Test.YtckcbfnffmohgaaGreatTt53
namespace Go.Proofs.YtckcbfnffmohgaaGreat
open Go Go.RowKit SQ TR DF PD PT NK
set_option linter.unusedVariables false

def hvC (x : He) : List Value := [.int .i64 x.1.1, .int .i64 x.1.2, .int .i64 x.2]
theorem hvC_len (x : He) : (hvC x).length = 3 := rfl
theorem infoHv : (Tryz.prog.info? 34).map (fun i => (i.zero, i.size, i.bytes)) = some (some (.agg #[.int .i64 0, .int .i64 0, .int .i64 0]), 3, 24) := by kernel_rfl
/-- A row of edges that weigh something of one's own, of the first i edges. -/
structure HvR (w : World) (A : List AK.Ed) (i : Nat) (L : List He) (v : Value) (wr : World) : Prop where
  hv : Hvy (A.take i) L
  row : wr.ownsRow 0 34 3 v L.length (rowsOf hvC L)
  ext : Ext w wr
  new : ∀ j, v.ownBlock = some j → w.heap.size ≤ j
section
variable {w wr w' W : World} {A : List AK.Ed} {i g c : Nat} {L : List He} {v : Value} {x : He}
theorem HvR.start (h : Ext w wr) : HvR w A 0 [] (.slice none 0 0) wr := ⟨⟨by simp, fun x hx => by cases hx⟩, World.ownsRow_nil _ _ _ _, h, fun j hj => by simp [Value.ownBlock] at hj⟩
theorem HvR.len (h : HvR w A i L v wr) (hi : i ≤ A.length) : L.length = i := by
  rw [h.hv.len, List.length_take]; omega
theorem HvR.rowAt (h : HvR w A i L v wr) (hx : Ext wr W) : W.ownsRow 0 34 3 v L.length (rowsOf hvC L) := own_chg h.row (Chg.of_below hx) (fun k hk => by have := own_lt h.row hk; omega)
theorem HvR.push (h : HvR w A i L v wr) (hx : A[i]? = some x.1) (hw : 0 ≤ x.2 ∧ x.2 ≤ 1000000) (hW : Ext wr W) (ho : w'.ownsRow 0 34 3 (.slice (some ⟨g, 0, none⟩) (L.length + 1) c) (L.length + 1) (rowsOf hvC L ++ hvC x)) (hc : Chg (fun k => v.ownBlock = some k) W w') (hat : v.ownBlock = some g ∨ g = W.heap.size) : HvR w A (i + 1) (L ++ [x]) (.slice (some ⟨g, 0, none⟩) (L.length + 1) c) w' := by
  have he : Ext w W := Ext.trans h.ext hW
  refine ⟨⟨?_, fun y hy => ?_⟩, ?_, ((Chg.of_below he).trans hc (fun k _ hk => h.new k hk)).below (Nat.le_refl _) (fun _ _ h => h), fun j hj => ?_⟩
  · rw [List.map_append, h.hv.map, List.take_add_one, hx]; rfl
  · rcases List.mem_append.1 hy with hy | hy
    · exact h.hv.wt y hy
    · obtain rfl : y = x := by simpa using hy
      exact hw
  · rw [List.length_append, List.length_singleton, rowsOf_app]
    have : rowsOf hvC [x] = hvC x := by simp [rowsOf]
    rw [this]; exact ho
  · simp [Value.ownBlock] at hj
    subst hj
    rcases hat with q | q
    · exact h.new _ q
    · have := he.size; omega
theorem HvR.at_ (h : HvR w A i L v wr) : ∃ R cr, v = .slice R L.length cr ∧ HvAt wr R L := by
  obtain ⟨R, cr, rfl, _⟩ := own_slice3 h.row
  refine ⟨R, cr, rfl, ?_⟩
  rcases h.row.2 with ⟨_, h0⟩ | ⟨g, cap, cur, hv, _, hg, _⟩
  · exact .inl (List.eq_nil_of_length_eq_zero h0)
  · simp only [Value.slice.injEq] at hv
    obtain ⟨rfl, _, rfl⟩ := hv
    refine .inr ⟨g, 0, rfl, (Array.getElem?_eq_some_iff.1 hg).1, fun j y hj => ?_⟩
    have hjl := (List.getElem?_eq_some_iff.1 hj).1
    have key : ∀ t u, t < 3 → (hvC y)[t]? = some u → wr.cell? ⟨g, j * 3 + t, none⟩ = some u := fun t u ht hu => by
      rw [h.row.cellAt (j * 3 + t) (by omega)]
      exact rowsOf_get (f := hvC) (S := 3) (fun a _ => hvC_len a) hj hu
    rw [Nat.zero_add]
    exact ⟨key 0 _ (by omega) rfl, key 1 _ (by omega) rfl, key 2 _ (by omega) rfl⟩
end

theorem brs_uv {n : Nat} {A b : List AK.Ed} {e : AK.Ed} (hA : OkE n A) (h : BrsOf n A b) (he : e ∈ b) : ∃ u v : Nat, e = ((u : Int), (v : Int)) ∧ ((u : Int), (v : Int)) ∈ A ∧ ¬ Go2 A u v := by
  obtain ⟨c, d, rfl, hadj⟩ := h.1.edm e he
  have hng := (h.1.edb c d hadj).1 he
  by_cases hcd : c ≤ d
  · refine ⟨c, d, by unfold DF.ek; rw [Nat.min_eq_left hcd, Nat.max_eq_right hcd], ?_, hng⟩
    rcases hadj with q | q
    · exact q
    · have := hA _ q; simp only at this; omega
  · refine ⟨d, c, by unfold DF.ek; rw [Nat.min_eq_right (by omega), Nat.max_eq_left (by omega)], ?_, fun q => hng q.flip⟩
    rcases hadj with q | q
    · have := hA _ q; simp only at this; omega
    · exact q
theorem take_memT {l : List AK.Ed} {i : Nat} {e x : AK.Ed} (he : l[i]? = some e) : x ∈ l.take (i + 1) ↔ x ∈ l.take i ∨ x = e := by
  rw [List.take_add_one, he]; simp
/-- Told so far. -/
def TkT (tb : Bool) (x : AK.Ed) (l : List AK.Ed) : Prop := tb = true ↔ x ∈ l
/-- Told so far: is there a number of these at whose place the edge stands? -/
def TkJ (tb : Bool) (A : List AK.Ed) (e : AK.Ed) (xs : List Int) : Prop := tb = true ↔ ∃ x ∈ xs, A[x.toNat]? = some e
theorem tkj_snoc {A : List AK.Ed} {e : AK.Ed} {xs : List Int} {j m : Nat} (hx : xs[j]? = some (m : Int)) : (∃ x ∈ xs.take (j + 1), A[x.toNat]? = some e) ↔ (∃ x ∈ xs.take j, A[x.toNat]? = some e) ∨ A[m]? = some e := by
  rw [List.take_add_one, hx]
  constructor
  · rintro ⟨x, h1, h2⟩
    rcases List.mem_append.1 h1 with h | h
    · exact .inl ⟨x, h, h2⟩
    · obtain rfl : x = (m : Int) := by simpa using h
      exact .inr (by simpa using h2)
  · rintro (⟨x, h1, h2⟩ | h)
    · exact ⟨x, List.mem_append_left _ h1, h2⟩
    · exact ⟨(m : Int), List.mem_append_right _ (by simp), by simpa using h⟩
set_option maxHeartbeats 8000000 in
set_option maxRecDepth 100000 in
theorem tt_walk (n : Int) (a1 : Option Addr) (len1 cap1 : Nat) (l : List AK.Ev) (a2 : Option Addr) (len2 cap2 : Nat) (ws : List Int) (w : World) (h1 : EvRow w a1 l ∧ l.length = len1 ∧ (len1 ≤ cap1 ∧ cap1 ≤ maxLen) ∧ EvIn l) (h2 : IntsAt w a2 ws ∧ ws.length = len2 ∧ len2 ≤ cap2 ∧ cap2 ≤ maxLen) :
    Calls Tryz.prog 4 #[.int .i64 n, .slice a1 len1 cap1, .slice a2 len2 cap2] w fun e w' => e = .returned (.bool true) ∧ Below w.heap.size w w' := by
  obtain ⟨hE1, hl1, ⟨hlc, hcm⟩, hin1⟩ := h1
  obtain ⟨hI2, hl2, hlc2, hcm2⟩ := h2
  unfold maxLen at hcm hcm2
  have HE1 : Hid (EvRow w a1 l ∧ l.length = len1 ∧ EvIn l) := ⟨hE1, hl1, hin1⟩
  have HI2 : Hid (IntsAt w a2 ws ∧ ws.length = len2) := ⟨hI2, hl2⟩
  clear hE1 hl1 hin1 hI2 hl2
  by_cases hn : n < 1 ∨ 60 < n
  · have HDN := Lib.hid (fun W => drawn_no W n a1 len1 cap1 hn)
    clear hn
    go_enter Tryz.func4, Tryz.ntmps4
    go_wp2_with fail
    refine (one_any w).mono ?_
    rintro e w1 ⟨rfl, hx1⟩
    have X1 : Hid (Ext w w1) := hx1
    clear hx1
    go_wp2_with fail
    refine (HDN.out w1).mono ?_
    rintro e w2 ⟨rfl, rfl⟩
    go_wp2
    go_ret
    exact ⟨rfl, X1.out⟩
  obtain ⟨n, rfl⟩ := Int.eq_ofNat_of_zero_le (show 0 ≤ n by omega)
  have hn2 : 1 ≤ n ∧ n ≤ 60 := by omega
  clear hn
  go_enter Tryz.func4, Tryz.ntmps4
  go_wp2_with fail
  refine (one_any w).mono ?_
  rintro e w1 ⟨rfl, hx1⟩
  have X1 : Hid (Ext w w1) := hx1
  have HDR := Lib.hid (drawn_any w1 n hn2 a1 len1 cap1 l HE1.out.2.1 (HE1.out.1.ext hx1) HE1.out.2.2)
  clear hx1 HE1
  go_wp2_with fail
  refine HDR.out.mono ?_
  rintro e w2 ⟨G, A, f, N, rfl, hg2, hN, hA⟩
  obtain ⟨g0, hg0⟩ : ∃ g, G.gb = g := ⟨_, rfl⟩
  rw [hg0]
  obtain ⟨T, hT⟩ : ∃ T, GM.lvl f A 0 = T := ⟨_, rfl⟩
  have HDE : Hid (DkE n A) := hg2.at_.de (by omega)
  have hfo := hg2.at_.k.fo 0
  rw [hT] at hfo
  have HTF : Hid (Fo n T ∧ T.Sublist A ∧ (∀ x y, Cn (adj A) x y ↔ Cn (adj T) x y) ∧ T.length ≤ 120) := by
    refine ⟨hfo, ?_, fun x y => by rw [← hT]; exact hg2.at_.k.joins, ?_⟩
    · rw [← hT]; exact List.filter_sublist
    · rw [← hT]; exact Nat.le_trans (List.length_filter_le _ _) hA
  have HTR : Hid (∀ W, Ext w2 W → Calls Tryz.prog 12 #[.pointer (some ⟨g0, 0, none⟩)] W fun e w' => ∃ R c, e = .returned (.slice R T.length c) ∧ EdsAt w' R T ∧ Ext W w') := fun W hW => by
    have q := gtree_any (hg2.at_.ext hW).m hg2.at_.k.ok hg2.at_.k.up (by omega)
    rw [hg0, hT] at q
    refine q.mono ?_
    rintro e w' ⟨R, c, rfl, hd, hx, _⟩
    exact ⟨R, c, rfl, (DRow.eds hd rfl).1, hx⟩
  have HGE := ge_any hg2.at_ (by omega)
  rw [hg0] at HGE
  have HGE := Lib.hid HGE
  have X2 : Hid (Ext w w2) := X1.out.trans hg2.ext
  clear hg2 hg0 hT hfo HDR X1
  go_wp2_with fail
  refine HGE.out.mono ?_
  rintro e w3 ⟨AA, ca, rfl, hE3, hca, hx3⟩
  unfold maxLen at hca
  have HE3 : Hid (EdsAt w3 AA A ∧ Ext w2 w3) := ⟨hE3, hx3⟩
  clear hE3 hx3 HGE
  go_wp2_with fail
  refine (HTR.out w3 HE3.out.2).mono ?_
  rintro e w4 ⟨TA, tc, rfl, hE4, hx4⟩
  have HE4 : Hid (EdsAt w4 AA A ∧ EdsAt w4 TA T ∧ Ext w2 w4) := ⟨HE3.out.1.ext hx4, hE4, HE3.out.2.trans hx4⟩
  clear hE4 hx4 HTR HE3
  have HBR : Hid (Calls Tryz.prog 13 #[.int .i64 n, .slice AA A.length ca] w4 fun e w' => ∃ (R : Option Addr) (c : Nat) (b : List AK.Ed), e = .returned (.tuple #[.slice R b.length c, .nilIface]) ∧ EdsAt w' R b ∧ b.length ≤ 60 ∧ BrsOf n A b ∧ Ext w4 w') := by
    refine (bridges_any w4 n AA A.length ca A rfl (by omega) HE4.out.1).mono ?_
    rintro e w' ⟨hx, ⟨hbad, _⟩ | ⟨_, k', R, c, b, hk', rfl, hE, _, hl, hB⟩⟩
    · exact absurd HDE.out.enc hbad
    · obtain rfl : k' = n := by omega
      exact ⟨R, c, b, rfl, hE, hl, hB, hx⟩
  go_wp2_with fail
  refine HBR.out.mono ?_
  rintro e w5 ⟨BA, bc, b, rfl, hE5, hbl, hB, hx5⟩
  have HE5 : Hid (EdsAt w5 AA A ∧ EdsAt w5 TA T ∧ EdsAt w5 BA b ∧ Ext w2 w5) := ⟨HE4.out.1.ext hx5, HE4.out.2.1.ext hx5, hE5, HE4.out.2.2.trans hx5⟩
  have HBS := Lib.hid hB
  clear hE5 hB hx5 HBR HE4
  have HWT : Hid (Wood A ↔ T.length = A.length) := wood_tree HDE.out.ok HDE.out.up HTF.out.1 HTF.out.2.1 HTF.out.2.2.1
  have HTL : Hid (T.length ≤ A.length) := HTF.out.2.1.length_le
  have HRG : Hid (Calls Tryz.prog 14 #[.int .i64 n, .slice AA A.length ca] w5 fun e w' => ∃ (R : Option Addr) (m c : Nat) (er : Value), e = .returned (.tuple #[.slice R m c, er]) ∧ ((T.length = A.length ∧ er = errV 4) ∨ (T.length < A.length ∧ er = .nilIface)) ∧ Ext w5 w') := by
    refine (ring_any w5 n AA A.length ca A rfl hca.1 (by omega) HE5.out.1).mono ?_
    rintro e w' ⟨hx, ⟨hbad, _⟩ | ⟨_, ⟨hw, rfl⟩ | ⟨k, R, c, p, hk, rfl, _, _, _, hr⟩⟩⟩
    · exact absurd HDE.out.enc hbad
    · exact ⟨none, 0, 0, _, rfl, .inl ⟨HWT.out.1 hw, rfl⟩, hx⟩
    · obtain rfl : k = n := by omega
      refine ⟨R, p.length, c, _, rfl, .inr ⟨?_, rfl⟩, hx⟩
      have h1 := ring_not HDE.out.ok hr
      have h2 := HTL.out
      have h3 : T.length ≠ A.length := fun q => h1 (HWT.out.2 q)
      omega
  go_wp2_with fail
  refine HRG.out.mono ?_
  rintro e w6 ⟨R6, m6, c6, er, rfl, hcase, hx6⟩
  have HE6 : Hid (EdsAt w6 AA A ∧ EdsAt w6 TA T ∧ EdsAt w6 BA b ∧ Ext w2 w6) := ⟨HE5.out.1.ext hx6, HE5.out.2.1.ext hx6, HE5.out.2.2.1.ext hx6, HE5.out.2.2.2.trans hx6⟩
  have HCASE := Lib.hid hcase
  have hAl : A.length ≤ 120 := hA
  have HIW : Hid (IntsAt w6 a2 ws ∧ ws.length = len2 ∧ Ext w w6) := ⟨HI2.out.1.ext (X2.out.trans HE6.out.2.2.2), HI2.out.2, X2.out.trans HE6.out.2.2.2⟩
  clear hx6 hcase HRG HE5 HWT HTL HI2 X2
  have HGO : Hid (∀ (P : Prop), (T.length = A.length → er = errV 4 → P) → (T.length < A.length → er = .nilIface → P) → P) := fun P p1 p2 => by
    rcases HCASE.out with ⟨q1, q2⟩ | ⟨q1, q2⟩
    · exact p1 q1 q2
    · exact p2 q1 q2
  clear HCASE
  go_upto_region 9 with fail
  go_cut [66] from 55 to 66 (fun s66 wx => s66 = .bool false ∧ wx = w6)
  case first =>
    as_aux_lemma =>
    refine HGO.out _ (fun q1 q2 => ?_) (fun q1 q2 => ?_)
    · subst q2
      have z1 : decide (T.length < A.length) = false := decide_eq_false (by omega)
      have z2 : ¬ (T.length : Int) < (A.length : Int) := by omega
      clear q1
      go_wp2
      go_meet
      exact ⟨rfl, rfl⟩
    · subst q2
      have z1 : decide (T.length < A.length) = true := decide_eq_true q1
      have z2 : (T.length : Int) < (A.length : Int) := by omega
      go_wp2
      go_meet
      exact ⟨rfl, rfl⟩
  case rest =>
    as_aux_lemma =>
    obtain ⟨rfl, hw⟩ := hcut
    have hw' := hw.symm
    subst hw'
    clear HGO
    go_wp2
    go_loopw [16, 17] (fun v16 v17 wr => ∃ (i : Nat) (L : List He), i ≤ A.length ∧ v17 = .int .i64 i ∧ Hid (HvR w6 A i L v16 wr)) (fun _ v17 _ => A.length - (intOf v17).toNat)
    case atStart => exact ⟨0, [], Nat.zero_le _, rfl, HvR.start (Ext.refl _)⟩
    case round =>
      as_aux_lemma =>
      obtain ⟨i, L, hi, rfl, HR⟩ := hrel
      rename_i u16
      by_cases c1 : i < A.length
      · obtain ⟨ys, yo, hys, _, ⟨y1, y2⟩, hy, d0, d1⟩ := eds_at (HE6.out.1.ext HR.out.ext) c1
        simp only at d0 d1
        subst hys
        have HY := Lib.hid hy
        have z2 : (0 : Int) ≤ (i : Int) := by omega
        have z3 : (i : Int) < (A.length : Int) := by omega
        obtain ⟨R, cr, rfl, _⟩ := HR.out.at_
        have hLi := HR.out.len (by omega)
        obtain ⟨q, hq⟩ : ∃ q, L.length = q := ⟨_, rfl⟩
        have HRW : Hid (∀ W, Ext wr W → W.ownsRow 0 34 3 (.slice R q cr) q (rowsOf hvC L)) := fun W hW => by
          have := HR.out.rowAt hW
          rwa [hq] at this
        have HPU : Hid (∀ (z : Int) (W : World) (g c : Nat) (wa : World), 0 ≤ z ∧ z ≤ 1000000 → Ext wr W → wa.ownsRow 0 34 3 (.slice (some ⟨g, 0, none⟩) (q + 1) c) (q + 1) (rowsOf hvC L ++ [.int .i64 y1, .int .i64 y2, .int .i64 z]) → Chg (fun k => (Value.slice R q cr).ownBlock = some k) W wa → ((Value.slice R q cr).ownBlock = some g ∨ g = W.heap.size) → ∃ L', HvR w6 A (i + 1) L' (.slice (some ⟨g, 0, none⟩) (q + 1) c) wa) := fun z W g c wa hz hW ho hc hat => by
          have hR := HR.out
          subst hq
          exact ⟨_, hR.push (x := ((y1, y2), z)) HY.out hz hW ho hc hat⟩
        rw [hq] at HR ⊢
        have hq120 : q ≤ 1000 := by omega
        clear hy hLi hq
        by_cases e1 : i < len2
        · obtain ⟨z, hz⟩ : ∃ z, ws[i]? = some z := ⟨_, List.getElem?_eq_getElem (by rw [HIW.out.2.1]; exact e1)⟩
          have HZC : Hid (IntsAt wr a2 ws) := HIW.out.1.ext HR.out.ext
          rcases HZC.out with h0 | ⟨bp, op, rfl, hbp, hcp⟩
          · rw [h0] at hz; simp at hz
          have zc := hcp i z hz
          have zcA : ∀ o, (wr.alloc o).cell? ⟨bp, op + i, none⟩ = some (.int .i64 z) := fun o => ((Ext.alloc wr o).cell (p := ⟨bp, op + i, none⟩) hbp).trans zc
          have g0 : (i : Int) < (len2 : Int) := by omega
          have g1 : decide ((i : Int) < (len2 : Int)) = true := decide_eq_true g0
          have g1' : decide (i < len2) = true := decide_eq_true e1
          clear hz hcp HZC
          by_cases e2 : 0 ≤ z
          · have g2 : decide (0 ≤ z) = true := decide_eq_true e2
            by_cases e3 : z ≤ 1000000
            · have g3 : decide (z ≤ 1000000) = true := decide_eq_true e3
              have HZ : Hid (0 ≤ z ∧ z ≤ 1000000) := ⟨e2, e3⟩
              clear e2 e3
              go_wp2_with (at_builtin; refine wpList_pushS _ rfl (.tmp 101) (.tmp 103) 22 rfl 34 _ 3 24 Tryz.underlying22 infoHv rfl (by decide) (.slice R q cr) q (rowsOf hvC L) rfl (HRW.out _ (Ext.trans (Ext.alloc _ _) (Ext.alloc _ _))) ⟨by omega, by omega⟩ [.int .i64 y1, .int .i64 y2, .int .i64 z] _ rfl rfl (news_cells (by simp) _ _) (by simp [Value.oneCell']) ?_; intro g6 c6 wa ho6 hc6 hat6 _; have HN := Lib.hid (HPU.out z _ g6 c6 wa HZ.out (Ext.trans (Ext.alloc _ _) (Ext.alloc _ _)) ho6 hc6 hat6); clear ho6 hc6 hat6)
              obtain ⟨L', hL'⟩ := HN.out
              have HL' := Lib.hid hL'
              clear hL' HN
              go_roundw
              case rel => exact ⟨i + 1, L', by omega, by go_num, HL'.out⟩
              case measure => simp [intOf]; omega
            · have g3 : decide (z ≤ 1000000) = false := decide_eq_false e3
              clear e2 e3
              go_wp2_with (at_builtin; refine wpList_pushS _ rfl (.tmp 101) (.tmp 103) 22 rfl 34 _ 3 24 Tryz.underlying22 infoHv rfl (by decide) (.slice R q cr) q (rowsOf hvC L) rfl (HRW.out _ (Ext.trans (Ext.alloc _ _) (Ext.alloc _ _))) ⟨by omega, by omega⟩ [.int .i64 y1, .int .i64 y2, .int .i64 0] _ rfl rfl (news_cells (by simp) _ _) (by simp [Value.oneCell']) ?_; intro g6 c6 wa ho6 hc6 hat6 _; have HN := Lib.hid (HPU.out 0 _ g6 c6 wa (by omega) (Ext.trans (Ext.alloc _ _) (Ext.alloc _ _)) ho6 hc6 hat6); clear ho6 hc6 hat6)
              obtain ⟨L', hL'⟩ := HN.out
              have HL' := Lib.hid hL'
              clear hL' HN
              go_roundw
              case rel => exact ⟨i + 1, L', by omega, by go_num, HL'.out⟩
              case measure => simp [intOf]; omega
          · have g2 : decide (0 ≤ z) = false := decide_eq_false e2
            clear e2
            go_wp2_with (at_builtin; refine wpList_pushS _ rfl (.tmp 101) (.tmp 103) 22 rfl 34 _ 3 24 Tryz.underlying22 infoHv rfl (by decide) (.slice R q cr) q (rowsOf hvC L) rfl (HRW.out _ (Ext.trans (Ext.alloc _ _) (Ext.alloc _ _))) ⟨by omega, by omega⟩ [.int .i64 y1, .int .i64 y2, .int .i64 0] _ rfl rfl (news_cells (by simp) _ _) (by simp [Value.oneCell']) ?_; intro g6 c6 wa ho6 hc6 hat6 _; have HN := Lib.hid (HPU.out 0 _ g6 c6 wa (by omega) (Ext.trans (Ext.alloc _ _) (Ext.alloc _ _)) ho6 hc6 hat6); clear ho6 hc6 hat6)
            obtain ⟨L', hL'⟩ := HN.out
            have HL' := Lib.hid hL'
            clear hL' HN
            go_roundw
            case rel => exact ⟨i + 1, L', by omega, by go_num, HL'.out⟩
            case measure => simp [intOf]; omega
        · have g0 : ¬ (i : Int) < (len2 : Int) := by omega
          have g1' : decide (i < len2) = false := decide_eq_false e1
          go_wp2_with (at_builtin; refine wpList_pushS _ rfl (.tmp 101) (.tmp 103) 22 rfl 34 _ 3 24 Tryz.underlying22 infoHv rfl (by decide) (.slice R q cr) q (rowsOf hvC L) rfl (HRW.out _ (Ext.trans (Ext.alloc _ _) (Ext.alloc _ _))) ⟨by omega, by omega⟩ [.int .i64 y1, .int .i64 y2, .int .i64 0] _ rfl rfl (news_cells (by simp) _ _) (by simp [Value.oneCell']) ?_; intro g6 c6 wa ho6 hc6 hat6 _; have HN := Lib.hid (HPU.out 0 _ g6 c6 wa (by omega) (Ext.trans (Ext.alloc _ _) (Ext.alloc _ _)) ho6 hc6 hat6); clear ho6 hc6 hat6)
          obtain ⟨L', hL'⟩ := HN.out
          have HL' := Lib.hid hL'
          clear hL' HN
          go_roundw
          case rel => exact ⟨i + 1, L', by omega, by go_num, HL'.out⟩
          case measure => simp [intOf]; omega
      · obtain rfl : i = A.length := by omega
        have hiz : ¬ (A.length : Int) < (A.length : Int) := by omega
        obtain ⟨R, cr, rfl, hHV⟩ := HR.out.at_
        have hvv := HR.out.hv
        rw [List.take_length] at hvv
        have hLi := HR.out.len (Nat.le_refl _)
        have hokH := hvv.ok HDE.out.ok HDE.out.hn (by omega)
        have hbrg : ∀ e ∈ b, ∃ i : Nat, A[i]? = some e ∧ e ∈ T ∧ (i : Int) ∈ spanH L := fun e he => by
          obtain ⟨u, v, rfl, hm, hg⟩ := brs_uv HDE.out.ok HBS.out he
          obtain ⟨i, hi⟩ := List.getElem?_of_mem hm
          refine ⟨i, hi, tree_bridge HDE.out.ok (fun x hx => HTF.out.2.1.subset hx) HTF.out.2.2.1 hm hg, mem_spanH.2 ⟨i, ?_, hvv.bridge HDE.out.ok HDE.out.up hi hg, rfl⟩⟩
          rw [hLi]; exact (List.getElem?_eq_some_iff.1 hi).1
        have HBRG := Lib.hid hbrg
        have HSPN := Lib.hid (span_any wr n R L.length cr L rfl (by omega) hHV)
        have HOK := Lib.hid hokH
        have HVV := Lib.hid hvv
        have HXR : Hid (Ext w6 wr) := HR.out.ext
        have hLA : Hid (L.length = A.length) := hLi
        clear hHV hvv hokH hbrg HR hLi
        go_wp2_with fail
        refine HSPN.out.mono ?_
        rintro e w7 ⟨hx7, ⟨hb, _⟩ | ⟨_, ⟨f', ho⟩, R7, c7, rfl, hr7, _⟩⟩
        · exact absurd (okH_of.2 HOK.out) hb
        have hmany := HVV.out.as_many HDE.out.ok HTF.out.1 HTF.out.2.2.1 ho
        obtain ⟨ss, hss⟩ : ∃ ss, spanH L = ss := ⟨_, rfl⟩
        have HSI : Hid (∀ x ∈ ss, ∃ i : Nat, i < A.length ∧ x = (i : Int)) := fun x hx => by
          rw [← hss] at hx
          obtain ⟨i, q1, _, q3⟩ := mem_spanH.1 hx
          exact ⟨i, by rw [← hLA.out]; exact q1, q3.symm⟩
        rw [hss] at hmany hr7 HBRG ⊢
        rw [hmany] at hr7 ⊢
        have HML := Lib.hid hmany
        have hx6 : Ext w6 w7 := HXR.out.trans hx7
        have H7 : Hid (EdsAt w7 AA A ∧ EdsAt w7 TA T ∧ EdsAt w7 BA b ∧ IntsAt w7 R7 ss ∧ Ext w w7) := ⟨HE6.out.1.ext hx6, HE6.out.2.1.ext hx6, HE6.out.2.2.1.ext hx6, (IntsAt.of_own hr7).1, HIW.out.2.2.trans hx6⟩
        have hTl := HTF.out.2.2.2
        clear hx7 hr7 ho hmany hx6 HSPN HE6 HIW HVV HOK HXR hss
        go_wp2
        go_loopw [20] (fun v20 wr => ∃ k : Nat, k ≤ b.length ∧ v20 = .int .i64 k ∧ Hid (Ext w7 wr)) (fun v20 _ => b.length - (intOf v20).toNat)
        case atStart => exact ⟨0, Nat.zero_le _, rfl, Ext.refl _⟩
        case round =>
          as_aux_lemma =>
          obtain ⟨k, hk, rfl, HX⟩ := hrel
          by_cases c : k < b.length
          · obtain ⟨bs, bo, hBA, hbb, e, hek, _, _⟩ := eds_at H7.out.2.2.1 c
            obtain ⟨i0, hi0, hiT, hiS⟩ := HBRG.out e (List.mem_of_getElem? hek)
            have HIN : Hid (e ∈ T ∧ ∃ x ∈ ss, A[x.toNat]? = some e) := ⟨hiT, (i0 : Int), hiS, by simpa using hi0⟩
            obtain ⟨e1, e2⟩ := e
            have HEC : Hid (∀ W, Ext w7 W → W.cell? ⟨bs, bo + k * 2, none⟩ = some (.int .i64 e1) ∧ W.cell? ⟨bs, bo + k * 2 + 1, none⟩ = some (.int .i64 e2)) := fun W hW => by
              rcases H7.out.2.2.1.ext hW with h0 | ⟨b', o', he, hb', hc'⟩
              · rw [h0] at c; simp at c
              · rw [hBA] at he
                injection he with he
                injection he with q1 q2
                subst q1; subst q2
                exact hc' k _ hek
            subst hBA
            obtain ⟨e, hE⟩ : ∃ e, e = (e1, e2) := ⟨_, rfl⟩
            rw [← hE] at HIN
            have HE := Lib.hid hE
            have z2 : (0 : Int) ≤ (k : Int) := by omega
            have z3 : (k : Int) < (b.length : Int) := by omega
            clear hek hi0 hiT hiS hE hbb
            go_wp2
            go_loopw [21, 22] (fun v21 v22 wr => ∃ (j : Nat) (tb : Bool), j ≤ T.length ∧ v21 = .bool tb ∧ v22 = .int .i64 j ∧ Hid (TkT tb e (T.take j) ∧ Ext w7 wr)) (fun _ v22 _ => T.length - (intOf v22).toNat)
            case atStart => exact ⟨0, false, Nat.zero_le _, rfl, rfl, by simp [TkT], HX.out⟩
            case round =>
              as_aux_lemma =>
              clear HX
              obtain ⟨j, tb, hj, rfl, rfl, HR⟩ := hrel
              by_cases c2 : j < T.length
              · obtain ⟨ys, yo, rfl, _, ⟨y1, y2⟩, hy, t0, t1⟩ := eds_at (H7.out.2.1.ext HR.out.2) c2
                simp only at t0 t1
                obtain ⟨b0, b1⟩ := HEC.out wr HR.out.2
                have HY := Lib.hid hy
                have z4 : (0 : Int) ≤ (j : Int) := by omega
                have z5 : (j : Int) < (T.length : Int) := by omega
                clear hy
                cases tb with
                | true =>
                  have HT : Hid (TkT true e (T.take (j + 1)) ∧ Ext w7 wr) := ⟨iff_of_true rfl ((take_memT HY.out).2 (.inl (HR.out.1.1 rfl))), HR.out.2⟩
                  clear HR
                  go_wp2
                  go_quiet (fail)
                  have HN : Hid (Ext w7 (wr.drewN nq)) := HT.out.2.trans (Ext.drewN _ _)
                  clear t0 t1 b0 b1
                  go_wp2
                  go_roundw
                  case rel => exact ⟨j + 1, true, by omega, rfl, by go_num, HT.out.1, HN.out⟩
                  case measure => simp [intOf]; omega
                | false =>
                  have HF : Hid (e ∉ T.take j) := fun q => by have := HR.out.1.2 q; cases this
                  have HX7 : Hid (Ext w7 wr) := HR.out.2
                  clear HR
                  by_cases q1 : y1 = e1
                  · have g1 : (y1 == e1) = true := by rw [beq_iff_eq]; exact q1
                    by_cases q2 : y2 = e2
                    · have HT : Hid (TkT true e (T.take (j + 1))) := iff_of_true rfl ((take_memT HY.out).2 (.inr (by rw [HE.out, q1, q2])))
                      have g2 : (y2 == e2) = true := by rw [beq_iff_eq]; exact q2
                      clear q1 q2
                      go_wp2
                      go_quiet (fail)
                      have HN : Hid (Ext w7 (wr.drewN nq)) := HX7.out.trans (Ext.drewN _ _)
                      clear t0 t1 b0 b1
                      go_wp2
                      go_roundw
                      case rel => exact ⟨j + 1, true, by omega, rfl, by go_num, HT.out, HN.out⟩
                      case measure => simp [intOf]; omega
                    · have HT : Hid (TkT false e (T.take (j + 1))) := iff_of_false (by simp) (fun q => by
                        rcases (take_memT HY.out).1 q with q | q
                        · exact HF.out q
                        · rw [HE.out] at q; injection q with _ q; exact q2 q.symm)
                      have g2 : (y2 == e2) = false := by rw [beq_eq_false_iff_ne]; exact q2
                      clear q1 q2
                      go_wp2
                      go_quiet (fail)
                      have HN : Hid (Ext w7 (wr.drewN nq)) := HX7.out.trans (Ext.drewN _ _)
                      clear t0 t1 b0 b1
                      go_wp2
                      go_roundw
                      case rel => exact ⟨j + 1, false, by omega, rfl, by go_num, HT.out, HN.out⟩
                      case measure => simp [intOf]; omega
                  · have g1 : (y1 == e1) = false := by rw [beq_eq_false_iff_ne]; exact q1
                    have HT : Hid (TkT false e (T.take (j + 1))) := iff_of_false (by simp) (fun q => by
                      rcases (take_memT HY.out).1 q with q | q
                      · exact HF.out q
                      · rw [HE.out] at q; injection q with q _; exact q1 q.symm)
                    clear q1
                    go_wp2
                    go_quiet (fail)
                    have HN : Hid (Ext w7 (wr.drewN nq)) := HX7.out.trans (Ext.drewN _ _)
                    clear t0 t1 b0 b1
                    go_wp2
                    go_roundw
                    case rel => exact ⟨j + 1, false, by omega, rfl, by go_num, HT.out, HN.out⟩
                    case measure => simp [intOf]; omega
              · obtain rfl : j = T.length := by omega
                have htb : tb = true := by
                  have := HR.out.1.2
                  rw [List.take_length] at this
                  exact this HIN.out.1
                subst htb
                have HX2 : Hid (Ext w7 wr) := HR.out.2
                have z4 : ¬ (T.length : Int) < (T.length : Int) := by omega
                clear HR
                go_wp2
                go_loopw [23, 24] (fun v23 v24 wr => ∃ (j : Nat) (tb : Bool), j ≤ T.length ∧ v23 = .bool tb ∧ v24 = .int .i64 j ∧ Hid (TkJ tb A e (ss.take j) ∧ Ext w7 wr)) (fun _ v24 _ => T.length - (intOf v24).toNat)
                case atStart => exact ⟨0, false, Nat.zero_le _, rfl, rfl, by simp [TkJ], HX2.out⟩
                case round =>
                  as_aux_lemma =>
                  clear HX2
                  obtain ⟨j, tb, hj, rfl, rfl, HR⟩ := hrel
                  by_cases c2 : j < T.length
                  · obtain ⟨x, hx⟩ : ∃ x, ss[j]? = some x := ⟨_, List.getElem?_eq_getElem (by rw [HML.out]; exact c2)⟩
                    obtain ⟨m, hm, rfl⟩ := HSI.out x (List.mem_of_getElem? hx)
                    rcases H7.out.2.2.2.1.ext HR.out.2 with h0 | ⟨sb, so, rfl, _, hsc⟩
                    · rw [h0] at hx; simp at hx
                    have s0 := hsc j _ hx
                    obtain ⟨ys, yo, rfl, _, ⟨y1, y2⟩, hy, t0, t1⟩ := eds_at (H7.out.1.ext HR.out.2) hm
                    simp only at t0 t1
                    obtain ⟨b0, b1⟩ := HEC.out wr HR.out.2
                    have HY := Lib.hid hy
                    have HS := Lib.hid hx
                    have z4 : (0 : Int) ≤ (j : Int) := by omega
                    have z5 : (j : Int) < (T.length : Int) := by omega
                    have z6 : (0 : Int) ≤ (m : Int) := by omega
                    have z7 : (m : Int) < (A.length : Int) := by omega
                    clear hy hx hsc
                    cases tb with
                    | true =>
                      have HT : Hid (TkJ true A e (ss.take (j + 1)) ∧ Ext w7 wr) := ⟨iff_of_true rfl ((tkj_snoc HS.out).2 (.inl (HR.out.1.1 rfl))), HR.out.2⟩
                      clear HR
                      go_wp2
                      go_quiet (fail)
                      have HN : Hid (Ext w7 (wr.drewN nq)) := HT.out.2.trans (Ext.drewN _ _)
                      clear s0 t0 t1 b0 b1
                      go_wp2
                      go_roundw
                      case rel => exact ⟨j + 1, true, by omega, rfl, by go_num, HT.out.1, HN.out⟩
                      case measure => simp [intOf]; omega
                    | false =>
                      have HF : Hid (¬ ∃ x ∈ ss.take j, A[x.toNat]? = some e) := fun q => by have := HR.out.1.2 q; cases this
                      have HX7 : Hid (Ext w7 wr) := HR.out.2
                      clear HR
                      by_cases q1 : y1 = e1
                      · have g1 : (y1 == e1) = true := by rw [beq_iff_eq]; exact q1
                        by_cases q2 : y2 = e2
                        · have HT : Hid (TkJ true A e (ss.take (j + 1))) := iff_of_true rfl ((tkj_snoc HS.out).2 (.inr (by rw [HY.out, HE.out, q1, q2])))
                          have g2 : (y2 == e2) = true := by rw [beq_iff_eq]; exact q2
                          clear q1 q2
                          go_wp2
                          go_quiet (fail)
                          have HN : Hid (Ext w7 (wr.drewN nq)) := HX7.out.trans (Ext.drewN _ _)
                          clear s0 t0 t1 b0 b1
                          go_wp2
                          go_roundw
                          case rel => exact ⟨j + 1, true, by omega, rfl, by go_num, HT.out, HN.out⟩
                          case measure => simp [intOf]; omega
                        · have HT : Hid (TkJ false A e (ss.take (j + 1))) := iff_of_false (by simp) (fun q => by
                            rcases (tkj_snoc HS.out).1 q with q | q
                            · exact HF.out q
                            · rw [HY.out, HE.out] at q; injection q with q; injection q with _ q; exact q2 q)
                          have g2 : (y2 == e2) = false := by rw [beq_eq_false_iff_ne]; exact q2
                          clear q1 q2
                          go_wp2
                          go_quiet (fail)
                          have HN : Hid (Ext w7 (wr.drewN nq)) := HX7.out.trans (Ext.drewN _ _)
                          clear s0 t0 t1 b0 b1
                          go_wp2
                          go_roundw
                          case rel => exact ⟨j + 1, false, by omega, rfl, by go_num, HT.out, HN.out⟩
                          case measure => simp [intOf]; omega
                      · have g1 : (y1 == e1) = false := by rw [beq_eq_false_iff_ne]; exact q1
                        have HT : Hid (TkJ false A e (ss.take (j + 1))) := iff_of_false (by simp) (fun q => by
                          rcases (tkj_snoc HS.out).1 q with q | q
                          · exact HF.out q
                          · rw [HY.out, HE.out] at q; injection q with q; injection q with q _; exact q1 q)
                        clear q1
                        go_wp2
                        go_quiet (fail)
                        have HN : Hid (Ext w7 (wr.drewN nq)) := HX7.out.trans (Ext.drewN _ _)
                        clear s0 t0 t1 b0 b1
                        go_wp2
                        go_roundw
                        case rel => exact ⟨j + 1, false, by omega, rfl, by go_num, HT.out, HN.out⟩
                        case measure => simp [intOf]; omega
                  · obtain rfl : j = T.length := by omega
                    have htb : tb = true := by
                      have := HR.out.1.2
                      rw [← HML.out, List.take_length] at this
                      exact this HIN.out.2
                    subst htb
                    have HX2 : Hid (Ext w7 wr) := HR.out.2
                    have z4 : ¬ (T.length : Int) < (T.length : Int) := by omega
                    clear HR
                    go_wp2
                    go_roundw
                    case rel => exact ⟨k + 1, by omega, by go_num, HX2.out⟩
                    case measure => simp [intOf]; omega
          · obtain rfl : k = b.length := by omega
            have z3 : ¬ (b.length : Int) < (b.length : Int) := by omega
            have HX2 : Hid (Ext w wr) := H7.out.2.2.2.2.trans HX.out
            go_wp2
            go_ret
            exact ⟨rfl, HX2.out⟩
end Go.Proofs.YtckcbfnffmohgaaGreat

/-
  Without a bridge it falls apart: the walk of TopBridges. Conditions: the events are read as 'EvRow' says.
-/
import Derived.Test.YthgniehfejklhaaGreatTopBridgesPk1
import Derived.Test.YthgniehfejklhaaGreatBs46
import Derived.Test.YthgniehfejklhaaGreatTopBridgesPk2
import Derived.Test.YthgniehfejklhaaGreatTopBridgesPk6
import Derived.Lib.QuietBelow
namespace Go.Proofs.YthgniehfejklhaaGreat
open Go Go.RowKit SQ TR DF PD PT
set_option linter.unusedVariables false

/-- Two rows of edges and an edge of its own, in blocks from M0 to M1. -/
structure Rws (M0 M1 : Nat) (wr : World) (R1 : Option Addr) (l1 : List AK.Ed) (R2 : Option Addr) (l2 : List AK.Ed) (gx u v : Nat) : Prop where
  e1 : EdsAt wr R1 l1
  b1 : l1 ≠ [] → ∀ x, R1 = some x → M0 ≤ x.block ∧ x.block < M1
  e2 : EdsAt wr R2 l2
  b2 : l2 ≠ [] → ∀ x, R2 = some x → M0 ≤ x.block ∧ x.block < M1
  c0 : wr.cell? ⟨gx, 0, none⟩ = some (.int .i64 u)
  c1 : wr.cell? ⟨gx, 1, none⟩ = some (.int .i64 v)
  bx : M0 ≤ gx ∧ gx < M1
  m1 : M1 ≤ wr.heap.size
section
variable {M0 M1 : Nat} {wr w' : World} {R1 R2 : Option Addr} {l1 l2 : List AK.Ed} {gx u v : Nat}
theorem Rws.keep (h : Rws M0 M1 wr R1 l1 R2 l2 gx u v) (hk : KeepR M0 M1 wr w') : Rws M0 M1 w' R1 l1 R2 l2 gx u v := by
  have hs : wr.heap.size ≤ w'.heap.size := by obtain ⟨T, hc, _⟩ := hk; exact hc.size
  exact ⟨hk.eds h.e1 h.b1, h.b1, hk.eds h.e2 h.b2, h.b2, (hk.cell h.m1 (p := ⟨gx, 0, none⟩) h.bx.1 h.bx.2).trans h.c0, (hk.cell h.m1 (p := ⟨gx, 1, none⟩) h.bx.1 h.bx.2).trans h.c1, h.bx, Nat.le_trans h.m1 hs⟩
theorem Rws.moved (h : Rws M0 M1 wr R1 l1 R2 l2 gx u v) (hx : Ext wr w') : Rws M0 M1 w' R1 l1 R2 l2 gx u v := h.keep (KeepR.of_ext hx h.m1)
end
theorem take_mem_iff {l : List AK.Ed} {i : Nat} {e x : AK.Ed} (he : l[i]? = some e) : x ∈ l.take (i + 1) ↔ x ∈ l.take i ∨ x = e := by
  rw [List.take_add_one, he]; simp
theorem gz_cnt {w wr : World} {g0 n B M0 M1 : Nat} {A : List AK.Ed} (h : GzA w wr g0 n B M0 M1 A) : PD.cnt (ldr A) n ≤ n := by
  obtain ⟨G, N, f, _, h2, _⟩ := h.g
  have := tree_len h2.at_
  omega
/-- Told so far. -/
def TkI (tb : Bool) (x : AK.Ed) (l : List AK.Ed) : Prop := tb = true ↔ x ∈ l
set_option maxHeartbeats 8000000 in
set_option maxRecDepth 100000 in
theorem tb_walk (n : Int) (a1 : Option Addr) (len1 cap1 : Nat) (l : List AK.Ev) (k : Int) (w : World) (h1 : EvRow w a1 l ∧ l.length = len1 ∧ (len1 ≤ cap1 ∧ cap1 ≤ maxLen) ∧ EvIn l) (hk : (Lit.int .i64 k).wf = true) :
    Calls Tryz.prog 5 #[.int .i64 n, .slice a1 len1 cap1, .int .i64 k] w fun e w' => e = .returned (.bool true) ∧ Below w.heap.size w w' := by
  obtain ⟨hE1, hl1, ⟨hlc, hcm⟩, hin1⟩ := h1
  unfold maxLen at hcm
  have HE1 : Hid (EvRow w a1 l ∧ l.length = len1 ∧ EvIn l) := ⟨hE1, hl1, hin1⟩
  have HKW := Lib.hid (w64_of hk)
  clear hE1 hl1 hin1 hk
  by_cases hn : n < 1 ∨ 60 < n
  · have HDN := Lib.hid (fun W => drawn_no W n a1 len1 cap1 hn)
    clear hn
    go_enter Tryz.func5, Tryz.ntmps5
    go_wp2_with fail
    refine (one_any w).mono ?_
    rintro e w1 ⟨rfl, hx1⟩
    have X1 : Hid (Ext w w1) := hx1
    clear hx1
    go_wp2_with fail
    refine (HDN.out w1).mono ?_
    rintro e w2 ⟨rfl, rfl⟩
    go_wp2
    go_ret
    exact ⟨rfl, X1.out⟩
  obtain ⟨n, rfl⟩ := Int.eq_ofNat_of_zero_le (show 0 ≤ n by omega)
  have hn2 : 1 ≤ n ∧ n ≤ 60 := by omega
  clear hn
  go_enter Tryz.func5, Tryz.ntmps5
  go_wp2_with fail
  refine (one_any w).mono ?_
  rintro e w1 ⟨rfl, hx1⟩
  have X1 : Hid (Ext w w1) := hx1
  have HDR := Lib.hid (drawn_any w1 n hn2 a1 len1 cap1 l HE1.out.2.1 (HE1.out.1.ext hx1) HE1.out.2.2)
  clear hx1
  go_wp2_with fail
  refine HDR.out.mono ?_
  rintro e w2 ⟨G, A, f, N, rfl, hg2, hN, hA⟩
  obtain ⟨g0, hg0⟩ : ∃ g, G.gb = g := ⟨_, rfl⟩
  rw [hg0]
  have HG0 := Lib.hid hg0
  have HG2 : Hid (GcS w1 w2 G n N A f) := hg2
  have HDE : Hid (DkE n A) := hg2.at_.de (by omega)
  have HGE := ge_new hg2.at_ (by omega)
  rw [hg0] at HGE
  have HGE := Lib.hid HGE
  clear hg2 hg0 HDR
  go_wp2_with fail
  refine HGE.out.mono ?_
  rintro e w3 ⟨AA, ca, rfl, hE3, hb3, hx3⟩
  have HE3 : Hid (EdsAt w3 AA A ∧ (A ≠ [] → ∀ x, AA = some x → w2.heap.size ≤ x.block ∧ x.block < w3.heap.size) ∧ Ext w2 w3) := ⟨hE3, hb3, hx3⟩
  clear hE3 hb3 hx3 HGE
  by_cases hA0 : A = []
  · subst hA0
    have HZ : Hid (GzA w1 w3 g0 n 480060 w2.heap.size w2.heap.size []) := by
      have := GzA.made (M1 := w2.heap.size) HG2.out hN (by omega) HE3.out.2.2 HE3.out.2.2.size
      rwa [HG0.out] at this
    have hcn : PD.cnt (ldr []) n = n := by
      have := tree_len HG2.out.at_
      have h0 : GM.lvl f [] 0 = [] := rfl
      rw [h0] at this
      simpa using this
    have HP := gz_parts HZ.out
    rw [hcn] at HP
    have HP := Lib.hid HP
    clear hcn HG2
    go_wp2_with fail
    refine HP.out.mono ?_
    rintro e w4 ⟨rfl, hx4⟩
    have HX4 : Hid (Ext w w4) := (X1.out.trans (HZ.out.ext)).trans hx4
    clear hx4 HP HZ
    go_wp2
    go_ret
    exact ⟨rfl, HX4.out⟩
  have hpos : 0 < A.length := by
    cases A with
    | nil => exact absurd rfl hA0
    | cons x A => simp
  have HA0 := Lib.hid hA0
  have zA : ((A.length : Int) == 0) = false := by rw [beq_eq_false_iff_ne]; omega
  have zA2 : ¬ (A.length : Int) = 0 := by omega
  have HBR : Hid (Calls Tryz.prog 25 #[.int .i64 n, .slice AA A.length ca] w3 fun e w' => ∃ (R : Option Addr) (c : Nat) (b : List AK.Ed), e = .returned (.tuple #[.slice R b.length c, .nilIface]) ∧ EdsAt w' R b ∧ b.length ≤ 60 ∧ DF.Brs A b ∧ (∀ x, R = some x → w3.heap.size ≤ x.block) ∧ Ext w3 w') := by
    refine (bridges_new w3 n AA A.length ca A rfl (by omega) HE3.out.1).mono ?_
    rintro e w' ⟨⟨hx, ⟨hbad, _⟩ | ⟨_, k', R, c, b, hk', rfl, hE, _, hl, hB⟩⟩, hnew⟩
    · exact absurd HDE.out.enc hbad
    · obtain rfl : k' = n := by omega
      exact ⟨R, c, b, rfl, hE, hl, hB.1, fun x hx => hnew x _ _ _ (by rw [hx]), hx⟩
  clear hA0
  go_wp2_with fail
  refine HBR.out.mono ?_
  rintro e w4 ⟨R, cb, b, rfl, hEb, hbl, hB, hbn, hx4⟩
  have H4 : Hid (EdsAt w4 AA A ∧ EdsAt w4 R b ∧ Ext w3 w4 ∧ (b ≠ [] → ∀ x, R = some x → w3.heap.size ≤ x.block ∧ x.block < w4.heap.size)) := ⟨HE3.out.1.ext hx4, hEb, hx4, fun hne x hx => ⟨hbn x hx, by
    rcases hEb with h0 | ⟨b', o, he, hb, _⟩
    · exact absurd h0 hne
    · rw [he] at hx; injection hx with hx; subst hx; exact hb⟩⟩
  have HBS := Lib.hid hB
  clear hEb hB hbn hx4 HBR
  go_wp2_with fail
  refine (pick_any w4 k A.length HKW.out hpos (by omega)).mono ?_
  rintro e w4' ⟨d, rfl, hd, rfl⟩
  obtain ⟨bs, off, rfl, hbs, ⟨x1, x2⟩, hx, p1, p2⟩ := eds_at H4.out.1 hd
  simp only at p1 p2
  have hxo := HDE.out.ok _ (List.mem_of_getElem? hx)
  simp only at hxo
  obtain ⟨u, rfl⟩ := Int.eq_ofNat_of_zero_le hxo.1
  obtain ⟨v, rfl⟩ := Int.eq_ofNat_of_zero_le (show 0 ≤ x2 by omega)
  have huv : u < v := by omega
  have hvn : v < n := by omega
  have HXM : Hid (((u : Int), (v : Int)) ∈ A) := List.mem_of_getElem? hx
  have z0 : (0 : Int) ≤ (d : Int) := by omega
  have z1 : (d : Int) < (A.length : Int) := by omega
  clear hx hxo
  go_upto_region 10 with fail
  have HX45 : Ext w4 (w4.alloc (.cells #[.int .i64 (u : Nat), .int .i64 (v : Nat)] 49)) := Ext.alloc _ _
  have hbl5 := Blk.new w4 49 #[.int .i64 (u : Nat), .int .i64 (v : Nat)]
  obtain ⟨gx, hgx⟩ : ∃ g, w4.heap.size = g := ⟨_, rfl⟩
  rw [hgx] at hbl5 ⊢
  generalize w4.alloc (.cells #[.int .i64 (u : Nat), .int .i64 (v : Nat)] 49) = w5 at HX45 hbl5 ⊢
  have H5 : Hid (GzA w1 w5 g0 n 480060 w2.heap.size w5.heap.size A ∧ Rws w2.heap.size w5.heap.size w5 (some ⟨bs, off, none⟩) A R b gx u v) := by
    have hz3 := HE3.out.2.2.size
    have hz4 := H4.out.2.2.1.size
    have hz5 := HX45.size
    have hg5 := hbl5.lt
    refine ⟨?_, ⟨H4.out.1.ext HX45, fun hne x hx => ?_, H4.out.2.1.ext HX45, fun hne x hx => ?_, hbl5.cell 0, hbl5.cell 1, ⟨by omega, hg5⟩, Nat.le_refl _⟩⟩
    · have := GzA.made (M1 := w5.heap.size) HG2.out hN (by omega) ((HE3.out.2.2.trans H4.out.2.2.1).trans HX45) (Nat.le_refl _)
      rwa [HG0.out] at this
    · have := HE3.out.2.1 hne x hx; omega
    · have := H4.out.2.2.2 hne x hx; omega
  clear HX45 hbl5 hgx p1 p2 HE3 H4 HG2
  generalize w2.heap.size = M0 at H5
  generalize w5.heap.size = M1 at H5
  have HCU := Lib.hid (parts_cut HDE.out.ok HXM.out)
  have HBC := Lib.hid (brs_cut HDE.out.ok HXM.out HBS.out)
  have HPUT := Lib.hid (put_cut HDE.out.up HXM.out)
  have hclen : (cutE ((u : Int), (v : Int)) A).length < A.length := by
    have h1 := putE_length ((u : Int), (v : Int)) (cutE ((u : Int), (v : Int)) A)
    rw [HPUT.out] at h1
    omega
  have HNC : Hid (((u : Int), (v : Int)) ∉ cutE ((u : Int), (v : Int)) A) := fun q => (cutE_mem.1 q).2 rfl
  have hcn := gz_cnt H5.out.1
  obtain ⟨pc, hpc⟩ : ∃ q, PD.cnt (ldr A) n = q := ⟨_, rfl⟩
  rw [hpc] at hcn
  obtain ⟨pd, hpd⟩ : ∃ q, PD.cnt (ldr (cutE ((u : Int), (v : Int)) A)) n = q := ⟨_, rfl⟩
  obtain ⟨jb, hjb⟩ : ∃ q, jB n (cutE ((u : Int), (v : Int)) A) u v = q := ⟨_, rfl⟩
  have hje : jE n (u : Int) v = .nilIface := by unfold jE; rw [if_pos (by omega)]
  obtain ⟨bb, hbb⟩ : ∃ q : Bool, q = true ↔ ((u : Int), (v : Int)) ∈ b := ⟨decide (((u : Int), (v : Int)) ∈ b), decide_eq_true_iff⟩
  have HBB := Lib.hid hbb
  have HCASE : Hid ((bb = true ∧ jb = false ∧ pd = pc + 1) ∨ (bb = false ∧ jb = true ∧ pd = pc)) := by
    have h1 := HCU.out
    rw [hpc, hpd] at h1
    have h2 := jB_iff (n := n) (A := cutE ((u : Int), (v : Int)) A) (show u < n by omega) hvn
    rw [hjb] at h2
    by_cases c : Cn (adj (cutE ((u : Int), (v : Int)) A)) u v
    · refine .inr ⟨?_, h2.2 c, h1.1 c⟩
      cases bb with
      | false => rfl
      | true => exact absurd c (HBC.out.1 (hbb.1 rfl))
    · refine .inl ⟨hbb.2 (HBC.out.2 c), ?_, h1.2 c⟩
      cases jb with
      | false => rfl
      | true => exact absurd (h2.1 rfl) c
  have HP1 := gz_parts H5.out.1
  rw [hpc] at HP1
  have HP1 := Lib.hid HP1
  have HPC := Lib.hid hpc
  have HPD := Lib.hid hpd
  have HJB := Lib.hid hjb
  have HJE := Lib.hid hje
  clear hpc hpd hjb hje hbb
  go_wp2_with fail
  refine HP1.out.mono ?_
  rintro e w6 ⟨rfl, hx6⟩
  have H6 : Hid (GzA w1 w6 g0 n 480060 M0 M1 A ∧ Rws M0 M1 w6 (some ⟨bs, off, none⟩) A R b gx u v) := ⟨H5.out.1.moved hx6, H5.out.2.moved hx6⟩
  have c0 := H6.out.2.c0
  have c1 := H6.out.2.c1
  have HDP := Lib.hid (gz_drop H6.out.1 (by omega) HXM.out)
  clear hx6 H5 HP1
  go_wp2_with fail
  refine HDP.out.mono ?_
  rintro e w7 ⟨rfl, hz7, hk7⟩
  have H7 : Hid (GzA w1 w7 g0 n 484060 M0 M1 (cutE ((u : Int), (v : Int)) A) ∧ Rws M0 M1 w7 (some ⟨bs, off, none⟩) A R b gx u v) := ⟨hz7, H6.out.2.keep hk7⟩
  clear hz7 hk7 H6 HDP c0 c1
  go_wp2
  go_loopw [15, 16] (fun v15 v16 wr => ∃ (i : Nat) (tb : Bool), i ≤ b.length ∧ v15 = .bool tb ∧ v16 = .int .i64 i ∧ Hid (TkI tb ((u : Int), (v : Int)) (b.take i) ∧ Ext w7 wr)) (fun _ v16 _ => b.length - (intOf v16).toNat)
  case atStart => exact ⟨0, false, Nat.zero_le _, rfl, rfl, by simp [TkI], Ext.refl _⟩
  case round =>
    as_aux_lemma =>
    obtain ⟨i, tb, hi, rfl, rfl, HR⟩ := hrel
    have HRW := Lib.hid (H7.out.2.moved HR.out.2)
    have c0 := HRW.out.c0
    have c1 := HRW.out.c1
    by_cases c : i < b.length
    · obtain ⟨ys, yo, rfl, _, ⟨y1, y2⟩, hy, d0, d1⟩ := eds_at HRW.out.e2 c
      simp only at d0 d1
      have HY := Lib.hid hy
      have z2 : (0 : Int) ≤ (i : Int) := by omega
      have z3 : (i : Int) < (b.length : Int) := by omega
      clear hy
      cases tb with
      | true =>
        have HT : Hid (TkI true ((u : Int), (v : Int)) (b.take (i + 1)) ∧ Ext w7 wr) := ⟨iff_of_true rfl ((take_mem_iff HY.out).2 (.inl (HR.out.1.1 rfl))), HR.out.2⟩
        clear HR HRW
        go_wp2
        go_quiet (fail)
        have HN : Hid (Ext w7 (wr.drewN nq)) := HT.out.2.trans (Ext.drewN _ _)
        clear c0 c1 d0 d1
        go_wp2
        go_roundw
        case rel => exact ⟨i + 1, true, by omega, rfl, by go_num, HT.out.1, HN.out⟩
        case measure => simp [intOf]; omega
      | false =>
        have HF : Hid (((u : Int), (v : Int)) ∉ b.take i) := fun q => by have := HR.out.1.2 q; cases this
        have HX7 : Hid (Ext w7 wr) := HR.out.2
        clear HR HRW
        by_cases q1 : y1 = (u : Int)
        · by_cases q2 : y2 = (v : Int)
          · have HT : Hid (TkI true ((u : Int), (v : Int)) (b.take (i + 1))) := iff_of_true rfl ((take_mem_iff HY.out).2 (.inr (by rw [q1, q2])))
            have e1 : (y1 == (u : Int)) = true := by simp [q1]
            have e2 : (y2 == (v : Int)) = true := by simp [q2]
            clear q1 q2
            go_wp2
            go_quiet (fail)
            have HN : Hid (Ext w7 (wr.drewN nq)) := HX7.out.trans (Ext.drewN _ _)
            clear c0 c1 d0 d1
            go_wp2
            go_roundw
            case rel => exact ⟨i + 1, true, by omega, rfl, by go_num, HT.out, HN.out⟩
            case measure => simp [intOf]; omega
          · have HT : Hid (TkI false ((u : Int), (v : Int)) (b.take (i + 1))) := iff_of_false (by simp) (fun q => by
              rcases (take_mem_iff HY.out).1 q with q | q
              · exact HF.out q
              · injection q with _ q; exact q2 q.symm)
            have e1 : (y1 == (u : Int)) = true := by simp [q1]
            have e2 : (y2 == (v : Int)) = false := by simpa using q2
            clear q1 q2
            go_wp2
            go_quiet (fail)
            have HN : Hid (Ext w7 (wr.drewN nq)) := HX7.out.trans (Ext.drewN _ _)
            clear c0 c1 d0 d1
            go_wp2
            go_roundw
            case rel => exact ⟨i + 1, false, by omega, rfl, by go_num, HT.out, HN.out⟩
            case measure => simp [intOf]; omega
        · have HT : Hid (TkI false ((u : Int), (v : Int)) (b.take (i + 1))) := iff_of_false (by simp) (fun q => by
            rcases (take_mem_iff HY.out).1 q with q | q
            · exact HF.out q
            · injection q with q _; exact q1 q.symm)
          have e1 : (y1 == (u : Int)) = false := by simpa using q1
          clear q1
          go_wp2
          go_quiet (fail)
          have HN : Hid (Ext w7 (wr.drewN nq)) := HX7.out.trans (Ext.drewN _ _)
          clear c0 c1 d0 d1
          go_wp2
          go_roundw
          case rel => exact ⟨i + 1, false, by omega, rfl, by go_num, HT.out, HN.out⟩
          case measure => simp [intOf]; omega
    · obtain rfl : tb = bb := by
        have h1 := HR.out.1
        rw [List.take_of_length_le (by omega)] at h1
        have h2 := HBB.out
        cases tb <;> cases bb
        · rfl
        · exact (h1.2 (h2.1 rfl))
        · exact (h2.2 (h1.1 rfl)).symm
        · rfl
      have H8 : Hid (GzA w1 wr g0 n 484060 M0 M1 (cutE ((u : Int), (v : Int)) A) ∧ Rws M0 M1 wr (some ⟨bs, off, none⟩) A R b gx u v) := ⟨H7.out.1.moved HR.out.2, HRW.out⟩
      have HJO := gz_joined H8.out.1 u v
      rw [HJB.out, HJE.out] at HJO
      have HJO := Lib.hid HJO
      clear HR HRW
      go_wp2_with fail
      refine HJO.out.mono ?_
      rintro e w9 ⟨rfl, hx9⟩
      have H9 : Hid (GzA w1 w9 g0 n 484060 M0 M1 (cutE ((u : Int), (v : Int)) A) ∧ Rws M0 M1 w9 (some ⟨bs, off, none⟩) A R b gx u v) := ⟨H8.out.1.moved hx9, H8.out.2.moved hx9⟩
      clear hx9 HJO H8 c0 c1
      have HP9 : Hid (∀ W, Ext w9 W → Calls Tryz.prog 22 #[.pointer (some ⟨g0, 0, none⟩)] W fun e w' => e = .returned (.int .i64 (pd : Nat)) ∧ Ext W w') := fun W hW => by
        have q := gz_parts (H9.out.1.moved hW)
        rwa [HPD.out] at q
      have HAD : Hid (∀ W, Ext w9 W → Calls Tryz.prog 28 #[.pointer (some ⟨g0, 0, none⟩), .int .i64 u, .int .i64 v] W fun e w' => e = .returned .nilIface ∧ GzA w1 w' g0 n 488060 M0 M1 A ∧ Rws M0 M1 w' (some ⟨bs, off, none⟩) A R b gx u v) := fun W hW => by
        have q := gz_add (H9.out.1.moved hW) (by omega) huv hvn HNC.out (by omega)
        refine q.mono ?_
        rintro e w' ⟨rfl, q1, q2⟩
        rw [HPUT.out] at q1
        exact ⟨rfl, q1, (H9.out.2.moved hW).keep q2⟩
      have HEND : Hid (∀ w13, (GzA w1 w13 g0 n 488060 M0 M1 A ∧ Rws M0 M1 w13 (some ⟨bs, off, none⟩) A R b gx u v) → Ext w w13) := fun w13 h => X1.out.trans h.1.ext
      have d0 := H9.out.2.c0
      have d1 := H9.out.2.c1
      rcases HCASE.out with ⟨hb1, hb2, hb3⟩ | ⟨hb1, hb2, hb3⟩
      · subst hb1
        subst hb2
        have y1 : ((pd : Int) == (pc : Int)) = false := by rw [beq_eq_false_iff_ne]; omega
        have y2 : ((pd : Int) == (pc : Int) + 1) = true := by rw [beq_iff_eq]; omega
        have y3 : ¬ (pd : Int) = (pc : Int) := by omega
        have y4 : decide ((pd : Int) = (pc : Int) + 1) = true := by rw [decide_eq_true_iff]; omega
        clear HCASE H7 HJB HJE HPD HCU HBC HBB hb3
        go_wp2_with fail
        refine (HP9.out _ (Ext.refl _)).mono ?_
        rintro e w10 ⟨rfl, hx10⟩
        have X10 : Hid (Ext w9 w10) := hx10
        clear hx10
        go_wp2_with fail
        refine (HP9.out _ X10.out).mono ?_
        rintro e w11 ⟨rfl, hx11⟩
        have X11 : Hid (Ext w9 w11) := X10.out.trans hx11
        have H11 := Lib.hid (H9.out.2.moved X11.out)
        have f0 := H11.out.c0
        have f1 := H11.out.c1
        clear hx11 X10 d0 d1
        go_wp2_with fail
        refine (HAD.out _ X11.out).mono ?_
        rintro e w12 ⟨rfl, hz12, hr12⟩
        have H12 : Hid (GzA w1 w12 g0 n 488060 M0 M1 A ∧ Rws M0 M1 w12 (some ⟨bs, off, none⟩) A R b gx u v) := ⟨hz12, hr12⟩
        have HP12 := gz_parts hz12
        rw [HPC.out] at HP12
        have HP12 := Lib.hid HP12
        clear hz12 hr12 f0 f1 H11 X11 HAD HP9 H9
        go_wp2_with fail
        refine HP12.out.mono ?_
        rintro e w13 ⟨rfl, hx13⟩
        have H13 : Hid (GzA w1 w13 g0 n 488060 M0 M1 A ∧ Rws M0 M1 w13 (some ⟨bs, off, none⟩) A R b gx u v) := ⟨H12.out.1.moved hx13, H12.out.2.moved hx13⟩
        clear hx13 HP12 H12
        go_wp2_with fail
        refine (gz_edges H13.out.1).mono ?_
        rintro e w14 ⟨A14, c14, rfl, hE14, _, hx14⟩
        have H14 : Hid (EdsAt w14 A14 A ∧ EdsAt w14 (some ⟨bs, off, none⟩) A ∧ Ext w w14) := ⟨hE14, (H13.out.2.moved hx14).e1, (HEND.out _ H13.out).trans hx14⟩
        clear hE14 hx14 H13 HEND
        go_wp2_with fail
        refine (sedges_any w14 A14 (some ⟨bs, off, none⟩) A.length A.length c14 ca A A H14.out.1 H14.out.2.1 rfl rfl (by omega) (by omega) true (by simp)).mono ?_
        rintro e w15 ⟨rfl, hx15⟩
        have H15 : Hid (Ext w w15) := H14.out.2.2.trans hx15
        clear hx15 H14
        go_wp2
        go_ret
        exact ⟨rfl, H15.out⟩
      · subst hb1
        subst hb2
        have y1 : ((pd : Int) == (pc : Int)) = true := by rw [beq_iff_eq]; omega
        have y2 : ((pd : Int) == (pc : Int) + 1) = false := by rw [beq_eq_false_iff_ne]; omega
        have y3 : ¬ (pd : Int) = (pc : Int) + 1 := by omega
        have y4 : decide ((pd : Int) = (pc : Int)) = true := by rw [decide_eq_true_iff]; omega
        clear HCASE H7 HJB HJE HPD HCU HBC HBB hb3
        go_wp2_with fail
        refine (HP9.out _ (Ext.refl _)).mono ?_
        rintro e w10 ⟨rfl, hx10⟩
        have X10 : Hid (Ext w9 w10) := hx10
        clear hx10
        go_wp2_with fail
        refine (HP9.out _ X10.out).mono ?_
        rintro e w11 ⟨rfl, hx11⟩
        have X11 : Hid (Ext w9 w11) := X10.out.trans hx11
        have H11 := Lib.hid (H9.out.2.moved X11.out)
        have f0 := H11.out.c0
        have f1 := H11.out.c1
        clear hx11 X10 d0 d1
        go_wp2_with fail
        refine (HAD.out _ X11.out).mono ?_
        rintro e w12 ⟨rfl, hz12, hr12⟩
        have H12 : Hid (GzA w1 w12 g0 n 488060 M0 M1 A ∧ Rws M0 M1 w12 (some ⟨bs, off, none⟩) A R b gx u v) := ⟨hz12, hr12⟩
        have HP12 := gz_parts hz12
        rw [HPC.out] at HP12
        have HP12 := Lib.hid HP12
        clear hz12 hr12 f0 f1 H11 X11 HAD HP9 H9
        go_wp2_with fail
        refine HP12.out.mono ?_
        rintro e w13 ⟨rfl, hx13⟩
        have H13 : Hid (GzA w1 w13 g0 n 488060 M0 M1 A ∧ Rws M0 M1 w13 (some ⟨bs, off, none⟩) A R b gx u v) := ⟨H12.out.1.moved hx13, H12.out.2.moved hx13⟩
        clear hx13 HP12 H12
        go_wp2_with fail
        refine (gz_edges H13.out.1).mono ?_
        rintro e w14 ⟨A14, c14, rfl, hE14, _, hx14⟩
        have H14 : Hid (EdsAt w14 A14 A ∧ EdsAt w14 (some ⟨bs, off, none⟩) A ∧ Ext w w14) := ⟨hE14, (H13.out.2.moved hx14).e1, (HEND.out _ H13.out).trans hx14⟩
        clear hE14 hx14 H13 HEND
        go_wp2_with fail
        refine (sedges_any w14 A14 (some ⟨bs, off, none⟩) A.length A.length c14 ca A A H14.out.1 H14.out.2.1 rfl rfl (by omega) (by omega) true (by simp)).mono ?_
        rintro e w15 ⟨rfl, hx15⟩
        have H15 : Hid (Ext w w15) := H14.out.2.2.trans hx15
        clear hx15 H14
        go_wp2
        go_ret
        exact ⟨rfl, H15.out⟩
end Go.Proofs.YthgniehfejklhaaGreat

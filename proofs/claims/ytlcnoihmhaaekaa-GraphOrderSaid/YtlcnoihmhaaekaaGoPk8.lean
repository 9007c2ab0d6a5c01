/-
  However it came to be: the walk of GraphOrder. Conditions: the steps are read as 'WSteps' says.
-/
import Derived.Test.YtlcnoihmhaaekaaGoPk7
import Derived.Lib.QuietBelow
namespace Go.Proofs.Ytlcnoihmhaaekaa
open Go Go.RowKit SQ TR DF PD PT
set_option linter.unusedVariables false

theorem two_tree {t : Nat} {f : AK.Ed → GM.St} (h : GM.GOk 2 t (putE (AK.ek ((1 : Nat) : Int) ((0 : Nat) : Int)) []) f) : (GM.lvl f (putE (AK.ek ((1 : Nat) : Int) ((0 : Nat) : Int)) []) 0).length = 1 := by
  have hA : putE (AK.ek ((1 : Nat) : Int) ((0 : Nat) : Int)) [] = [((0 : Int), (1 : Int))] := by unfold AK.ek; rfl
  rw [hA] at h ⊢
  have c : Cn (adj (GM.lvl f [((0 : Int), (1 : Int))] 0)) 0 1 := h.joins.1 (.edge (.inl (by simp)))
  have hle : (GM.lvl f [((0 : Int), (1 : Int))] 0).length ≤ 1 := List.length_filter_le _ _
  cases hl : GM.lvl f [((0 : Int), (1 : Int))] 0 with
  | nil =>
    rw [hl] at c
    have := c.into (R := fun x y => x = y) (fun _ => rfl) (fun u v e => by simp [adj] at e) (fun _ _ h => h.symm) (fun _ _ _ h k => h.trans k)
    omega
  | cons x r => rw [hl] at hle; simp at hle ⊢; exact hle
theorem placeV_in {l : List AK.Ed} {x : AK.Ed} (h : x ∈ l) : 0 ≤ RF.placeV (RF.place l x) := by
  cases e : RF.place l x with
  | none => exact absurd h (RF.place_mem.1 e)
  | some i => simp [RF.placeV]
theorem placeV_out {l : List AK.Ed} {x : AK.Ed} (h : x ∉ l) : RF.placeV (RF.place l x) = -1 := by
  rw [RF.place_mem.2 h]; rfl
/-- The graph of the call's own that slot 9 points at. -/
def Go0 (w wr : World) (g0 n N k : Nat) : Prop := ∃ (G : GrP) (A : List AK.Ed) (f : AK.Ed → GM.St), G.gb = g0 ∧ GcS w wr G n N A f ∧ A.length ≤ k
theorem Go0.next {w wr w' : World} {g0 n N k : Nat} (h : Go0 w wr g0 n N k) (hx : Ext wr w') : Go0 w w' g0 n N k := by
  obtain ⟨G, A, f, h1, h2, h3⟩ := h
  exact ⟨G, A, f, h1, h2.moved hx, h3⟩
theorem Go0.add {w wr : World} {g0 n N k : Nat} (h : Go0 w wr g0 n N k) (hN : N + 4000 < 1000000) (a b : Int) (ha : inI a) (hb : inI b) :
    Calls Try.prog 17 #[.pointer (some ⟨g0, 0, none⟩), .int .i64 a, .int .i64 b] wr fun e w' => ∃ v, e = .returned v ∧ Go0 w w' g0 n (N + 4000) (k + 1) := by
  obtain ⟨G, A, f, rfl, h2, h3⟩ := h
  refine (gadd_all h2.at_ (by omega) a b ha hb).mono ?_
  rintro e w' ⟨v, A', f', rfl, q1, q2, q3⟩
  exact ⟨v, rfl, G, A', f', rfl, h2.step q1 q2, by omega⟩
theorem Go0.drop {w wr : World} {g0 n N k : Nat} (h : Go0 w wr g0 n N k) (hN : N + 4000 < 1000000) (hk : k ≤ 200) (a b : Int) :
    Calls Try.prog 19 #[.pointer (some ⟨g0, 0, none⟩), .int .i64 a, .int .i64 b] wr fun e w' => ∃ v, e = .returned v ∧ Go0 w w' g0 n (N + 4000) (k + 1) := by
  obtain ⟨G, A, f, rfl, h2, h3⟩ := h
  refine (gdrop_all h2.at_ hN (by omega) a b).mono ?_
  rintro e w' ⟨v, G', A', f', rfl, q1, q2, q3⟩
  exact ⟨v, rfl, G', A', f', q2.gb, h2.step q1 q2, by omega⟩
set_option maxHeartbeats 8000000 in
set_option maxRecDepth 100000 in
theorem go_walk (n : Int) (a1 : Option Addr) (len1 cap1 : Nat) (s1 : Nat → Int × Int × Int) (a2 : Option Addr) (len2 cap2 : Nat) (s2 : Nat → Int × Int × Int) (w : World) (hsa : WSteps w a1 len1 s1 ∧ len1 ≤ cap1 ∧ cap1 ≤ maxLen) (hsb : WSteps w a2 len2 s2 ∧ len2 ≤ cap2 ∧ cap2 ≤ maxLen) :
    Calls Try.prog 4 #[.int .i64 n, .slice a1 len1 cap1, .slice a2 len2 cap2] w fun e w' => e = .returned (.bool true) ∧ Below w.heap.size w w' := by
  obtain ⟨hs, hlc, hcm⟩ := hsa
  obtain ⟨hs2, hlc2, hcm2⟩ := hsb
  unfold maxLen at hcm hcm2
  have HSt := Lib.hid hs
  have HSt2 := Lib.hid hs2
  clear hs hs2
  go_enter Try.func4, Try.ntmps4
  go_wp2_with fail
  refine (gnew_ok w 2 (by omega)).mono ?_
  intro e w1 hp
  obtain ⟨Z, rfl, hz, hx1⟩ := GcS.made (Ext.refl w) hp
  have HZ := Lib.hid hz
  clear hp hz hx1
  go_wp2_with fail
  refine (gadd_ok HZ.out.at_ (by omega) 1 0 (by omega) (by omega) (by omega) (by simp) (by simp)).mono ?_
  rintro e w2 ⟨sz, rfl, hg2, hc2⟩
  have HZ2 := Lib.hid (HZ.out.step hg2 hc2)
  have HP2 := gparts_any hg2.m hg2.k.ok hg2.k.up (by simp [putE])
  rw [two_tree hg2.k] at HP2
  have HPT := Lib.hid HP2
  clear hg2 hc2 HZ HP2
  go_wp2_with fail
  refine HPT.out.mono ?_
  rintro e w3 ⟨rfl, hx3⟩
  have X3 : Hid (Ext w w3) := HZ2.out.ext.trans hx3
  clear hx3 HPT HZ2
  by_cases hn : n < 1 ∨ 60 < n
  · go_wp2_with fail
    refine (gnew_no w3 n hn).mono ?_
    rintro e w5 ⟨rfl, rfl⟩
    go_wp2
    go_ret
    exact ⟨rfl, X3.out⟩
  obtain ⟨n, rfl⟩ := Int.eq_ofNat_of_zero_le (show 0 ≤ n by omega)
  have hn2 : 1 ≤ n ∧ n ≤ 60 := by omega
  clear hn
  go_wp2_with fail
  refine (gnew_ok w3 n hn2).mono ?_
  intro e w5 hp
  obtain ⟨G, rfl, hgc, hx5⟩ := GcS.made X3.out hp
  obtain ⟨g0, hg0⟩ : ∃ g, G.gb = g := ⟨_, rfl⟩
  have R0 : Hid (Go0 w w5 g0 n n 0) := ⟨G, [], _, hg0, hgc, Nat.le_refl _⟩
  rw [hg0]
  clear hp hgc hx5 hg0 X3
  go_upto_block 0 with fail
  go_cut [11] (fun s11 wx => Hid (Go0 w wx g0 n 240060 60))
  case first =>
    go_wp2_with fail
    go_loopw [11] (fun v wr => ∃ k : Nat, k ≤ len1 ∧ k ≤ 60 ∧ v = .int .i64 k ∧ Hid (Go0 w wr g0 n (n + 4000 * k) k)) (fun v _ => len1 - (intOf v).toNat)
    case atStart => exact ⟨0, Nat.zero_le _, Nat.zero_le _, rfl, R0.out⟩
    case round =>
      obtain ⟨i, hi, hi8, rfl, HR⟩ := hrel
      clear R0
      by_cases c0 : i < len1 ∧ i < 60
      · obtain ⟨c1, c2⟩ := c0
        have hbel : Below w.heap.size w wr := by obtain ⟨G, A, f, h1, h2, h3⟩ := HR.out; exact h2.ext
        obtain ⟨b, off, q, x, y, rfl, hq, hx, hy, iq, ix, iy, _⟩ := (HSt.out.chg hbel).at_ c1
        have z0 : (0 : Int) ≤ (i : Int) := by omega
        have z1 : (i : Int) < (len1 : Int) := by omega
        have HI : Hid (inI x ∧ inI y) := ⟨ix, iy⟩
        clear hbel iq ix iy
        by_cases q3 : q < 3
        · go_wp2
          go_still_tail 11, (by kernel_rfl)
          go_wp2_with fail
          refine ((HR.out.next (Ext.drew wr)).add (by omega) x y HI.out.1 HI.out.2).mono ?_
          rintro e w6 ⟨v, rfl, h6⟩
          have HN : Hid (Go0 w w6 g0 n (n + 4000 * (i + 1)) (i + 1)) := h6
          clear h6 HR
          go_wp2
          go_roundw
          case rel => exact ⟨i + 1, by omega, by omega, by go_num, HN⟩
          case measure => simp [intOf]; omega
        · go_wp2
          go_still_tail 11, (by kernel_rfl)
          go_wp2_with fail
          refine ((HR.out.next (Ext.drew wr)).drop (by omega) (by omega) x y).mono ?_
          rintro e w6 ⟨v, rfl, h6⟩
          have HN : Hid (Go0 w w6 g0 n (n + 4000 * (i + 1)) (i + 1)) := h6
          clear h6 HR
          go_wp2
          go_roundw
          case rel => exact ⟨i + 1, by omega, by omega, by go_num, HN⟩
          case measure => simp [intOf]; omega
      · have hii : (i < len1 ∧ ¬ i < 60) ∨ ¬ i < len1 := by omega
        have HE : Hid (Go0 w wr g0 n 240060 60) := by
          obtain ⟨G, A, f, h1, h2, h3⟩ := HR.out
          exact ⟨G, A, f, h1, h2.mono (by omega), by omega⟩
        clear HR c0
        rcases hii with ⟨c1, c2⟩ | c1
        all_goals
          go_wp2
          go_meet
          exact HE
  case rest =>
    clear R0
    obtain ⟨G, A, f, hg0, hgc, hAl⟩ := hcut.out
    have HG := Lib.hid hgc
    subst hg0
    clear hcut hgc
    go_wp2_with fail
    refine (gedges_any HG.out.at_.m HG.out.at_.k.ok HG.out.at_.k.up (by omega)).mono ?_
    rintro e w6 ⟨A6, c6, rfl, hd6, hx6, _⟩
    have HG6 := Lib.hid (HG.out.moved hx6)
    have D6 : Hid (EdsAt w6 A6 A) := (DRow.eds hd6 rfl).1
    clear hd6 hx6 HG
    go_wp2_with fail
    refine (gnew_ok w6 n hn2).mono ?_
    intro e w7 hp
    obtain ⟨H, rfl, hhc, hx7⟩ := GcS.made (Ext.refl w6) hp
    have R7 : Hid (OrR w6 w7 H n n [] [] (.slice none 0 0) ∧ GO.Mo n A 0 [] []) := ⟨OrR.start hhc, GO.Mo.start n A⟩
    clear hp hhc hx7
    go_upto_block 2 with fail
    go_cut [14, 15] (fun s14 s15 wx => ∃ (X B : List AK.Ed) (Ax : Option Addr) (cx : Nat), s14 = .slice Ax X.length cx ∧ Hid (OrR w6 wx H n 100 X B (.slice Ax X.length cx) ∧ GO.Mo n A 20 X B))
    case first =>
      go_wp2_with fail
      go_loopw [14, 15] (fun v14 v15 wr => ∃ (i : Nat) (X B : List AK.Ed) (Ax : Option Addr) (cx : Nat), i ≤ len2 ∧ i ≤ 20 ∧ v14 = .slice Ax X.length cx ∧ v15 = .int .i64 i ∧ Hid (OrR w6 wr H n (n + 2 * i) X B (.slice Ax X.length cx) ∧ GO.Mo n A i X B)) (fun _ v15 _ => len2 - (intOf v15).toNat)
      case atStart => exact ⟨0, [], [], none, 0, Nat.zero_le _, Nat.zero_le _, rfl, rfl, R7.out⟩
      case round =>
        obtain ⟨i, X, B, Ax, cx, hi, hi8, rfl, rfl, HR⟩ := hrel
        clear R7
        by_cases c0 : i < len2 ∧ i < 20
        · obtain ⟨c1, c2⟩ := c0
          have hE0 : Ext w6 wr := HR.out.1.bel
          obtain ⟨b, off, q, x, y, rfl, hq, hx, hy, iq, ix, iy, _, hb⟩ := (HSt2.out.chg HG6.out.ext).at_ c1
          have hXi : X.length ≤ i := HR.out.2.len
          have HI : Hid (inI x ∧ inI y) := ⟨ix, iy⟩
          have z0 : (0 : Int) ≤ (i : Int) := by omega
          have z1 : (i : Int) < (len2 : Int) := by omega
          have HC : Hid (∀ W, Ext w6 W → Ext w6 W ∧ W.cell? ⟨b, off + i * 4 + 1, none⟩ = some (.int .i64 x) ∧ W.cell? ⟨b, off + i * 4 + 2, none⟩ = some (.int .i64 y)) := fun W hW => ⟨hW, (hW.cell (p := ⟨b, _, none⟩) hb).trans hx, (hW.cell (p := ⟨b, _, none⟩) hb).trans hy⟩
          have hx' := (HC.out wr hE0).2.1
          have hy' := (HC.out wr hE0).2.2
          have HPL : Hid (∀ W, Ext wr W → Calls Try.prog 21 #[.slice A6 A.length c6, .int .i64 x, .int .i64 y] W fun e w' => e = .returned (.int .i64 (RF.placeV (RF.place A (AK.ek x y)))) ∧ Ext W w') := fun W hW => place_any W A6 A.length c6 A x y rfl (by omega) (D6.out.ext (hE0.trans hW))
          obtain ⟨p, hp⟩ : ∃ p, RF.placeV (RF.place A (AK.ek x y)) = p := ⟨_, rfl⟩
          rw [hp] at HPL
          clear hq hx hy iq ix iy hb
          by_cases hin : AK.ek x y ∈ A
          · have p0 : 0 ≤ p := by rw [← hp]; exact placeV_in hin
            have p1 : decide (p < 0) = false := by simp; omega
            have p2 : ¬ p < 0 := by omega
            obtain ⟨s1, s2⟩ : (∀ d os, (Go.Sort.grow (redrawn wr d) os).cell? ⟨b, off + i * 4 + 1, none⟩ = some (.int .i64 x)) ∧ (∀ d os, (Go.Sort.grow (redrawn wr d) os).cell? ⟨b, off + i * 4 + 2, none⟩ = some (.int .i64 y)) := ⟨fun d os => (HC.out _ (Ext.trans hE0 (below_regrown wr d os))).2.1, fun d os => (HC.out _ (Ext.trans hE0 (below_regrown wr d os))).2.2⟩
            clear hp hin
            go_wp2
            refine wp_region_quiet_below (by kernel_rfl) (by kernel_rfl) ?_
            repeat (go_big_quiet_step ((go_at_call 21; exact Calls.regrown_of (HPL.out _ (below_regrown wr _ _)))))
            refine wpQuiet_nil ?_
            intro _ hw'
            obtain ⟨⟨dq, osq⟩, hw''⟩ := hw'
            subst hw''
            have HN : Hid (OrR w6 (Go.Sort.grow (redrawn wr dq) osq) H n (n + 2 * (i + 1)) X B (.slice Ax X.length cx) ∧ GO.Mo n A (i + 1) X B) := ⟨(HR.out.1.moved (below_regrown wr dq osq)).mono (by omega), HR.out.2.stay⟩
            clear s1 s2
            clear HR HC HPL
            go_wp2
            go_roundw
            case rel => exact ⟨i + 1, X, B, Ax, cx, by omega, by omega, rfl, by go_num, HN⟩
            case measure => simp [intOf]; omega
          · have p0 : p = -1 := by rw [← hp]; exact placeV_out hin
            subst p0
            have HNI := Lib.hid hin
            clear hp hin
            by_cases hk : addFault n B x y = 0
            · obtain ⟨e1, e2, hek⟩ : ∃ e1 e2, AK.ek x y = (e1, e2) := ⟨_, _, rfl⟩
              have HAD : Hid (∀ W, Ext wr W → Calls Try.prog 17 #[.pointer (some ⟨H.gb, 0, none⟩), .int .i64 x, .int .i64 y] W fun e w' => e = .returned .nilIface ∧ OrR w6 w' H n (n + 2 * (i + 1)) X (putE (AK.ek x y) B) (.slice Ax X.length cx)) := fun W hW => by
                have h1 := HR.out.1.moved hW
                obtain ⟨f1, g1⟩ := h1.g
                refine (gadd_any g1.at_ (by omega) x y HI.out.1 HI.out.2).mono ?_
                rintro e w' (⟨k, q1, q2, _⟩ | ⟨_, s, rfl, q1, q2⟩)
                · omega
                · exact ⟨rfl, h1.step g1 q1 q2⟩
              have HOF : Hid (∀ W, Calls Try.prog 22 #[.int .i64 x, .int .i64 y] W fun e w' => e = .returned (.agg #[.int .i64 e1, .int .i64 e2]) ∧ Ext W w') := fun W => by
                have h1 := rof_any W x y
                rw [hek] at h1
                exact h1
              have HMO : Hid (GO.Mo n A (i + 1) (X ++ [(e1, e2)]) (putE (AK.ek x y) B)) := by
                obtain ⟨f1, g1⟩ := HR.out.1.g
                obtain ⟨k1, k2, k3, k4, k5⟩ := addFault_0 hk
                have h2 := HR.out.2.add HNI.out k4 (by unfold AK.ek; simp only; omega)
                rw [hek] at h2 ⊢
                exact h2
              clear hk hek
              go_wp2
              go_region_held3 (fun W => Ext w6 W ∧ W.cell? ⟨b, off + i * 4 + 1, none⟩ = some (.int .i64 x) ∧ W.cell? ⟨b, off + i * 4 + 2, none⟩ = some (.int .i64 y))
                (exact HC.out _ (by first | assumption | exact Ext.trans hE0 (Ext.drew _) | exact fst_ (by assumption) | exact Ext.trans (fst_ (by assumption)) (by assumption)))
                (first
                  | (go_at_call 21; refine (HPL.out _ (Ext.drew _)).mono ?_; rintro e w7 ⟨rfl, hb7⟩; have hE7 : Ext wr w7 := Ext.trans (Ext.drew _) hb7)
                  | (go_at_call 17; refine (HAD.out _ (by assumption)).mono ?_; rintro e w8 ⟨rfl, h8⟩; have HO8 := Lib.hid h8; have hF8 : Ext w6 w8 := h8.bel; clear h8)
                  | fail)
              rename_i hHeld
              have hx8 := (HC.out _ hF8).2.1
              have hy8 := (HC.out _ hF8).2.2
              clear HR HPL HAD hHeld hx' hy' hE7 hb7
              go_wp2
              go_region_held3 (fun W => Ext w6 W ∧ W.cell? ⟨b, off + i * 4 + 1, none⟩ = some (.int .i64 x) ∧ W.cell? ⟨b, off + i * 4 + 2, none⟩ = some (.int .i64 y))
                (exact HC.out _ (by first | assumption | exact Ext.trans hF8 (Ext.drew _) | exact fst_ (by assumption) | exact Ext.trans (fst_ (by assumption)) (by assumption) | exact Ext.trans (fst_ (by assumption)) (Ext.alloc _ _)))
                (first
                  | (go_at_call 22; refine (HOF.out _).mono ?_; rintro e w9 ⟨rfl, hb9⟩; have hE9 : Ext w8 w9 := Ext.trans (Ext.drew _) hb9)
                  | (refine step_pushS _ (by rfl) (.tmp 138) (.tmp 150) 35 (by rfl) 38 (.agg #[.int .i64 0, .int .i64 0]) 2 16 Try.underlying35 infoEdge (by rfl) (by decide) (.slice Ax X.length cx) X.length (rowsOf edC X) (by rfl) ((HO8.out.moved hE9).moved (Ext.alloc _ _)).row ⟨by omega, by omega⟩ [.int .i64 e1, .int .i64 e2] w9.heap.size (by rfl) (by rfl) (news_cells rfl [.int .i64 e1, .int .i64 e2] _) (by simp [Value.oneCell']) ?_; intro g9 c9 wa ho9 hc9 hg9; have HA := Lib.hid (HO8.out.push (x := (e1, e2)) (hE9.trans (Ext.alloc _ _)) ho9 hc9 hg9); have hFa : Ext w6 wa := HA.out.bel; clear ho9 hc9 hg9)
                  | fail)
              rename_i hHeld2
              have HN : Hid (OrR w6 wa H n (n + 2 * (i + 1)) (X ++ [(e1, e2)]) (putE (AK.ek x y) B) (.slice (some ⟨g9, 0, none⟩) (X ++ [(e1, e2)]).length c9)) := by rw [List.length_append]; exact HA.out
              clear hHeld2 HA HC HOF
              go_wp2
              go_roundw
              case rel => exact ⟨i + 1, X ++ [(e1, e2)], _, some ⟨g9, 0, none⟩, c9, by omega, by omega, by simp, by go_num, HN.out, HMO.out⟩
              case measure => simp [intOf]; omega
            · have HAD : Hid (∀ W, Ext wr W → Calls Try.prog 17 #[.pointer (some ⟨H.gb, 0, none⟩), .int .i64 x, .int .i64 y] W fun e w' => (∃ k : Nat, e = .returned (errV k)) ∧ Ext W w') := fun W hW => by
                have h1 := HR.out.1.moved hW
                obtain ⟨f1, g1⟩ := h1.g
                refine (gadd_any g1.at_ (by omega) x y HI.out.1 HI.out.2).mono ?_
                rintro e w' (⟨k, q1, q2, q3, q4⟩ | ⟨q1, _⟩)
                · exact ⟨⟨k, q3⟩, q4⟩
                · exact absurd q1 hk
              clear hk
              go_wp2
              go_region_held3 (fun W => Ext w6 W ∧ W.cell? ⟨b, off + i * 4 + 1, none⟩ = some (.int .i64 x) ∧ W.cell? ⟨b, off + i * 4 + 2, none⟩ = some (.int .i64 y))
                (exact HC.out _ (by first | assumption | exact Ext.trans hE0 (Ext.drew _) | exact fst_ (by assumption) | exact Ext.trans (fst_ (by assumption)) (by assumption)))
                (first
                  | (go_at_call 21; refine (HPL.out _ (Ext.drew _)).mono ?_; rintro e w7 ⟨rfl, hb7⟩; have hE7 : Ext wr w7 := Ext.trans (Ext.drew _) hb7)
                  | (go_at_call 17; refine (HAD.out _ (by assumption)).mono ?_; rintro e w8 ⟨⟨ke, rfl⟩, hb8⟩; have hE8 : Ext wr w8 := Ext.trans (by assumption) hb8)
                  | fail)
              rename_i hHeld
              have HN : Hid (OrR w6 w8 H n (n + 2 * (i + 1)) X B (.slice Ax X.length cx) ∧ GO.Mo n A (i + 1) X B) := ⟨(HR.out.1.moved hE8).mono (by omega), HR.out.2.stay⟩
              clear HR HC HPL HAD
              go_wp2
              go_roundw
              case rel => exact ⟨i + 1, X, B, Ax, cx, by omega, by omega, rfl, by go_num, HN⟩
              case measure => simp [intOf]; omega
        · have hii : (i < len2 ∧ ¬ i < 20) ∨ ¬ i < len2 := by omega
          have HE : Hid (OrR w6 wr H n 100 X B (.slice Ax X.length cx) ∧ GO.Mo n A 20 X B) := ⟨HR.out.1.mono (by omega), HR.out.2.mono hi8⟩
          clear HR c0
          rcases hii with ⟨c1, c2⟩ | c1
          all_goals
            go_wp2
            go_meet
            exact ⟨_, _, _, _, rfl, HE⟩
    case rest =>
      obtain ⟨X, B, Ax, cx, rfl, HR⟩ := hcut
      have hX20 : X.length ≤ 20 := HR.out.2.len
      clear R7
      go_wp2
      go_loopw [16] (fun v16 wr => ∃ (i : Nat) (z : Int), i ≤ A.length ∧ z + 1 = i ∧ v16 = .int .i64 z ∧ Hid (∃ B, OrR w6 wr H n (100 + 2 * (A.length - i)) X B (.slice Ax X.length cx) ∧ GO.Ba A X i B)) (fun v16 _ => (intOf v16 + 1).toNat)
      case atStart => exact ⟨A.length, A.length - 1, Nat.le_refl _, by omega, rfl, B, by simpa using HR.out.1, GO.Ba.start HR.out.2⟩
      case round =>
        obtain ⟨i, z, hi, hz, rfl, HB⟩ := hrel
        by_cases h0 : 0 ≤ z
        · obtain ⟨j, rfl⟩ := Int.eq_ofNat_of_zero_le h0
          obtain rfl : i = j + 1 := by omega
          obtain ⟨B, hOR, hBA⟩ := HB.out
          obtain ⟨b, off, xe, rfl, hxe, g1, g2⟩ := geds_at (D6.out.ext hOR.bel) (show j < A.length by omega)
          have hxo := HG6.out.at_.k.ok xe (List.mem_of_getElem? hxe)
          obtain ⟨u, hu⟩ := Int.eq_ofNat_of_zero_le hxo.1
          obtain ⟨v, hv⟩ := Int.eq_ofNat_of_zero_le (show 0 ≤ xe.2 by omega)
          obtain rfl : xe = ((u : Int), (v : Int)) := Prod.ext hu hv
          simp only at hxo g1 g2
          have hek : AK.ek (v : Int) u = ((u : Int), (v : Int)) := by unfold AK.ek; rw [Int.min_eq_right (by omega), Int.max_eq_left (by omega)]
          have hnew := hBA.new HR.out.2 HG6.out.at_.k.up hxe
          have hadd := hBA.add hxe
          have hlen := hBA.len hOR.up
          have HAD : Hid (Calls Try.prog 17 #[.pointer (some ⟨H.gb, 0, none⟩), .int .i64 (v : Nat), .int .i64 (u : Nat)] wr.drew fun e w' => e = .returned .nilIface ∧ ∃ B, OrR w6 w' H n (100 + 2 * (A.length - j)) X B (.slice Ax X.length cx) ∧ GO.Ba A X j B) := by
            have h1 := hOR.moved (Ext.drew wr)
            obtain ⟨f1, q1⟩ := h1.g
            refine (gadd_ok q1.at_ (by omega) v u (by omega) (by omega) (by omega) (by rw [hek]; exact hnew) (by omega)).mono ?_
            rintro e w' ⟨s, rfl, r1, r2⟩
            rw [hek] at r1
            exact ⟨rfl, _, (h1.step q1 r1 r2).mono (by omega), hadd⟩
          have z1 : (j : Int) < (A.length : Int) := by omega
          clear hOR hBA hxe hxo hu hv hek hnew hadd hlen HB hz
          go_wp2
          go_still_tail 11, (by kernel_rfl)
          go_wp2_with fail
          refine HAD.out.mono ?_
          rintro e w8 ⟨rfl, h8⟩
          have HN := Lib.hid h8
          clear h8 HAD
          go_wp2
          go_roundw
          case rel => exact ⟨j, (j : Int) - 1, by omega, by omega, by go_num, HN⟩
          case measure => simp [intOf] <;> omega
        · obtain rfl : i = 0 := by omega
          obtain ⟨B, hOR, hBA⟩ := HB.out
          have R4 : Hid (∃ (H' : GrP) (B : List AK.Ed), H'.gb = H.gb ∧ OrR w6 wr H' n (220 + 4000 * 0) X B (.slice Ax X.length cx) ∧ GO.Dr A X 0 B) := ⟨H, B, rfl, hOR.mono (by omega), GO.Dr.start hBA⟩
          clear hOR hBA HB hz
          go_wp2
          go_loopw [17] (fun v17 wr => ∃ i : Nat, i ≤ X.length ∧ v17 = .int .i64 i ∧ Hid (∃ (H' : GrP) (B : List AK.Ed), H'.gb = H.gb ∧ OrR w6 wr H' n (220 + 4000 * i) X B (.slice Ax X.length cx) ∧ GO.Dr A X i B)) (fun v17 _ => X.length - (intOf v17).toNat)
          case atStart => exact ⟨0, Nat.zero_le _, rfl, R4.out⟩
          case round =>
            obtain ⟨i, hi, rfl, HB⟩ := hrel
            clear R4
            by_cases hlt : i < X.length
            · obtain ⟨H', B, hgb, hOR, hDR⟩ := HB.out
              obtain ⟨b, off, xe, rfl, hxe, g1, g2⟩ := geds_at ((DRow.eds hOR.row rfl).1) hlt
              have hxo := HR.out.2.ok xe (List.mem_of_getElem? hxe)
              obtain ⟨u, hu⟩ := Int.eq_ofNat_of_zero_le hxo.1
              obtain ⟨v, hv⟩ := Int.eq_ofNat_of_zero_le (show 0 ≤ xe.2 by omega)
              obtain rfl : xe = ((u : Int), (v : Int)) := Prod.ext hu hv
              simp only at hxo g1 g2
              have hek : AK.ek (v : Int) u = ((u : Int), (v : Int)) := by unfold AK.ek; rw [Int.min_eq_right (by omega), Int.max_eq_left (by omega)]
              have hmem := hDR.at_ hxe
              have hdr := hDR.drop HR.out.2 hxe
              have hlen := hDR.len hOR.up
              have HAD : Hid (Calls Try.prog 19 #[.pointer (some ⟨H.gb, 0, none⟩), .int .i64 (v : Nat), .int .i64 (u : Nat)] wr.drew fun e w' => e = .returned .nilIface ∧ ∃ (H' : GrP) (B : List AK.Ed), H'.gb = H.gb ∧ OrR w6 w' H' n (220 + 4000 * (i + 1)) X B (.slice (some ⟨b, off, none⟩) X.length cx) ∧ GO.Dr A X (i + 1) B) := by
                have h1 := hOR.moved (Ext.drew wr)
                obtain ⟨f1, q1⟩ := h1.g
                rw [← hgb]
                refine (gdrop_ok q1.at_ (by omega) (by omega) (by omega) (by omega) (by rw [hek]; exact hmem)).mono ?_
                rintro e w' ⟨G', f', rfl, r1, r2, _⟩
                rw [hek] at r1
                exact ⟨rfl, G', _, r2.gb, h1.step q1 r1 r2, hdr⟩
              have z0 : (0 : Int) ≤ (i : Int) := by omega
              have z1 : (i : Int) < (X.length : Int) := by omega
              clear hOR hDR hxe hxo hu hv hek hmem hdr hlen HB hgb
              go_wp2
              go_still_tail 11, (by kernel_rfl)
              go_wp2_with fail
              refine HAD.out.mono ?_
              rintro e w8 ⟨rfl, h8⟩
              have HN := Lib.hid h8
              clear h8 HAD
              go_wp2
              go_roundw
              case rel => exact ⟨i + 1, by omega, by go_num, HN⟩
              case measure => simp [intOf]; omega
            · obtain rfl : i = X.length := by omega
              obtain ⟨H', B, hgb, hOR, hDR⟩ := HB.out
              have hBA := hDR.end_ HG6.out.at_.k.up hOR.up
              subst hBA
              obtain ⟨f2, g2⟩ := hOR.g
              have HH := Lib.hid g2
              have X6 : Hid (Ext w6 wr) := g2.ext
              have HED := Lib.hid (gedges_any g2.at_.m g2.at_.k.ok g2.at_.k.up (by omega))
              rw [hgb] at HED
              have HGB := Lib.hid hgb
              clear hOR hDR HB hgb g2
              go_wp2_with fail
              refine HED.out.mono ?_
              rintro e w9 ⟨A9, c9, rfl, hd9, hx9, _⟩
              have D9 : Hid (EdsAt w9 A9 B) := (DRow.eds hd9 rfl).1
              have HH9 := Lib.hid (HH.out.moved hx9)
              clear hd9 hx9 HED HH X6 HR
              go_wp2_with fail
              refine (sedges_any w9 A9 A6 B.length B.length c9 c6 B B D9.out (D6.out.ext HH9.out.ext) rfl rfl (by omega) (by omega) true (by simp)).mono ?_
              rintro e w10 ⟨rfl, hx10⟩
              have HG10 : Hid (GcS w w10 G n 240060 B f) := (HG6.out.moved HH9.out.ext).moved hx10
              have HH10 := Lib.hid (HH9.out.moved hx10)
              obtain ⟨L, hL⟩ : ∃ L, (GM.lvl f B 0).length = L := ⟨_, rfl⟩
              have hL2 : (GM.lvl f2 B 0).length = L := by
                have q1 := tree_len HG10.out.at_
                have q2 := tree_len HH10.out.at_
                omega
              have hLn : L ≤ 60 := by have q1 := tree_len HG10.out.at_; omega
              have HT1 : Hid (∀ W, Ext w10 W → Calls Try.prog 18 #[.pointer (some ⟨G.gb, 0, none⟩)] W fun e w' => e = .returned (.int .i64 ((n : Int) - L)) ∧ Ext W w') := fun W hW => by
                have q := gparts_any (HG10.out.moved hW).at_.m HG10.out.at_.k.ok HG10.out.at_.k.up (by omega)
                rwa [hL] at q
              have HT2 : Hid (∀ W, Ext w10 W → Calls Try.prog 18 #[.pointer (some ⟨H.gb, 0, none⟩)] W fun e w' => e = .returned (.int .i64 ((n : Int) - L)) ∧ Ext W w') := fun W hW => by
                have q := gparts_any (HH10.out.moved hW).at_.m HH10.out.at_.k.ok HH10.out.at_.k.up (by omega)
                rwa [hL2, HGB.out] at q
              have HT3 : Hid (∀ W, Ext w10 W → Calls Try.prog 23 #[.pointer (some ⟨G.gb, 0, none⟩)] W fun e w' => (∃ A c, e = .returned (.slice A L c)) ∧ Ext W w') := fun W hW => by
                have q := gtree_any (HG10.out.moved hW).at_.m HG10.out.at_.k.ok HG10.out.at_.k.up (by omega)
                refine q.mono ?_
                rintro e w' ⟨A, c, rfl, _, hx, _⟩
                exact ⟨⟨A, c, by rw [hL]⟩, hx⟩
              have HT4 : Hid (∀ W, Ext w10 W → Calls Try.prog 23 #[.pointer (some ⟨H.gb, 0, none⟩)] W fun e w' => (∃ A c, e = .returned (.slice A L c)) ∧ Ext W w') := fun W hW => by
                have q := gtree_any (HH10.out.moved hW).at_.m HH10.out.at_.k.ok HH10.out.at_.k.up (by omega)
                rw [HGB.out] at q
                refine q.mono ?_
                rintro e w' ⟨A, c, rfl, _, hx, _⟩
                exact ⟨⟨A, c, by rw [hL2]⟩, hx⟩
              have hq : (((n : Int) - (L : Int)) != ((n : Int) - (L : Int))) = false := by simp
              have hq2 : ((L : Int) != (L : Int)) = false := by simp
              clear hL hL2 D9 HH9 hx10
              go_wp2_with fail
              refine (HT2.out _ (Ext.refl _)).mono ?_
              rintro e w11 ⟨rfl, x11⟩
              have E11 : Hid (Ext w10 w11) := x11
              clear x11
              go_wp2_with fail
              refine (HT1.out _ E11.out).mono ?_
              rintro e w12 ⟨rfl, x12⟩
              have E12 : Hid (Ext w10 w12) := E11.out.trans x12
              clear x12 E11
              go_wp2_with fail
              refine (HT4.out _ E12.out).mono ?_
              rintro e w13 ⟨⟨A13, c13, rfl⟩, x13⟩
              have E13 : Hid (Ext w10 w13) := E12.out.trans x13
              clear x13 E12
              go_wp2_with fail
              refine (HT3.out _ E13.out).mono ?_
              rintro e w14 ⟨⟨A14, c14, rfl⟩, x14⟩
              have E14 : Hid (Ext w10 w14) := E13.out.trans x14
              clear x14 E13 HT1 HT2 HT3 HT4
              go_wp2
              go_loopw [19] (fun v19 wr => ∃ i : Nat, i ≤ n ∧ v19 = .int .i64 i ∧ Hid (Ext w10 wr)) (fun v19 _ => n - (intOf v19).toNat)
              case atStart => exact ⟨0, Nat.zero_le _, rfl, E14.out⟩
              case round =>
                obtain ⟨i, hi, rfl, HX⟩ := hrel
                clear E14
                by_cases hlt : i < n
                · have z1 : (i : Int) < (n : Int) := by omega
                  obtain ⟨K, hK⟩ : ∃ K, (comp n B i).length = K := ⟨_, rfl⟩
                  obtain ⟨t, ht⟩ : ∃ t : Bool, t = true ↔ Cn (adj B) i 0 := by classical exact ⟨decide (Cn (adj B) i 0), by simp⟩
                  have HS1 := gsize_ok (HG10.out.moved HX.out).at_.m i hlt
                  rw [comp_joins (HG10.out.moved HX.out).at_, hK] at HS1
                  have HS1 := Lib.hid HS1
                  have HS2 : Hid (∀ W, Ext w10 W → Calls Try.prog 24 #[.pointer (some ⟨H.gb, 0, none⟩), .int .i64 (i : Nat)] W fun e w' => e = .returned (.tuple #[.int .i64 (K : Nat), .nilIface]) ∧ Ext W w') := fun W hW => by
                    have q := gsize_ok (HH10.out.moved hW).at_.m i hlt
                    rwa [comp_joins (HH10.out.moved hW).at_, hK, HGB.out] at q
                  have HJ1 : Hid (∀ W, Ext w10 W → Calls Try.prog 25 #[.pointer (some ⟨G.gb, 0, none⟩), .int .i64 (i : Nat), .int .i64 0] W fun e w' => e = .returned (.tuple #[.bool t, .nilIface]) ∧ Ext W w') := fun W hW =>
                    gjoined_ok (HG10.out.moved hW).at_.m i 0 hlt (by omega) t (ht.trans HG10.out.at_.k.joins)
                  have HJ2 : Hid (∀ W, Ext w10 W → Calls Try.prog 25 #[.pointer (some ⟨H.gb, 0, none⟩), .int .i64 0, .int .i64 (i : Nat)] W fun e w' => e = .returned (.tuple #[.bool t, .nilIface]) ∧ Ext W w') := fun W hW => by
                    have q := gjoined_ok (HH10.out.moved hW).at_.m 0 i (by omega) hlt t ((ht.trans HH10.out.at_.k.joins).trans ⟨Cn.symm, Cn.symm⟩)
                    rwa [HGB.out] at q
                  have hq3 : ((K : Int) != (K : Int)) = false := by simp
                  have hq4 : (t != t) = false := by cases t <;> rfl
                  clear hK ht
                  go_wp2_with fail
                  refine HS1.out.mono ?_
                  rintro e wa ⟨rfl, xa⟩
                  have Ea : Hid (Ext w10 wa) := HX.out.trans xa
                  clear xa HX HS1
                  go_wp2_with fail
                  refine (HS2.out _ Ea.out).mono ?_
                  rintro e wb ⟨rfl, xb⟩
                  have Eb : Hid (Ext w10 wb) := Ea.out.trans xb
                  clear xb Ea HS2
                  go_wp2_with fail
                  refine (HJ1.out _ Eb.out).mono ?_
                  rintro e wd ⟨rfl, xd⟩
                  have Ed : Hid (Ext w10 wd) := Eb.out.trans xd
                  clear xd Eb HJ1
                  go_wp2_with fail
                  refine (HJ2.out _ Ed.out).mono ?_
                  rintro e we ⟨rfl, xe⟩
                  have Ee : Hid (Ext w10 we) := Ed.out.trans xe
                  clear xe Ed HJ2
                  go_wp2
                  go_roundw
                  case rel => exact ⟨i + 1, by omega, by go_num, Ee.out⟩
                  case measure => simp [intOf]; omega
                · obtain rfl : i = n := by omega
                  go_wp2
                  go_ret
                  exact ⟨rfl, HG10.out.ext.trans HX.out⟩
end Go.Proofs.Ytlcnoihmhaaekaa

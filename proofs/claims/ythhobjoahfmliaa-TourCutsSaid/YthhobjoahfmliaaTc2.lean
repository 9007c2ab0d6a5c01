/-
  What is cut falls in two: the walk of TourCuts. Condition: the steps are read as 'StepsAt' says.
-/
import Derived.Test.YthhobjoahfmliaaTo9
import Derived.Test.YthhobjoahfmliaaTc1
import Derived.Test.YthhobjoahfmliaaArg
import Derived.Test.YthhobjoahfmliaaPk
import Derived.Test.YthhobjoahfmliaaSe
namespace Go.Proofs.Ythhobjoahfmliaa
open Go Go.RowKit SQ TR DF PD
set_option linter.unusedVariables false

theorem stepInt (w : World) (s : Nat → Int × Int × Int) {b off len i : Nat} (h : ∀ i, i < len → w.cell? ⟨b, off + i * 4, none⟩ = some (.int .i64 (s i).1) ∧ w.cell? ⟨b, off + i * 4 + 1, none⟩ = some (.int .i64 (s i).2.1) ∧ w.cell? ⟨b, off + i * 4 + 2, none⟩ = some (.int .i64 (s i).2.2)) (hi : i < len) :
    ∃ x y : Int, (s i).2 = (x, y) ∧ w.cell? ⟨b, off + i * 4 + 1, none⟩ = some (.int .i64 x) ∧ w.cell? ⟨b, off + i * 4 + 2, none⟩ = some (.int .i64 y) := ⟨_, _, rfl, (h i hi).2.1, (h i hi).2.2⟩
/-- A forest of the call's own. -/
structure TcS (w wr : World) (F : FoP) (n N : Nat) (E : List AK.Ed) : Prop where
  at_ : FoAt wr F n N E
  ext : Ext w wr
  new : w.heap.size ≤ F.fb ∧ ∀ k, F.S k → w.heap.size ≤ k
section
variable {w wr w' : World} {F : FoP} {n N N' : Nat} {E E' : List AK.Ed}
theorem TcS.moved (h : TcS w wr F n N E) (hx : Ext wr w') : TcS w w' F n N E := ⟨h.at_.ext hx, h.ext.trans hx, h.new⟩
theorem TcS.step (h : TcS w wr F n N E) (h' : FoAt w' F n N' E') (hc : Chg F.S wr w') : TcS w w' F n N' E' :=
  ⟨h', ((Chg.of_below h.ext).trans hc (fun i _ hi => h.new.2 i hi)).below (Nat.le_refl _) (fun _ _ h => h), h.new⟩
theorem tlink_any (h : FoAt w F n N E) (hN : N < 1000000) (a b : Int) : Calls Try.prog 8 #[.pointer (some ⟨F.fb, 0, none⟩), .int .i64 a, .int .i64 b] w fun e w' => ∃ v E', e = .returned v ∧ FoAt w' F n (N + 1) E' ∧ Chg F.S w w' := by
  by_cases ha : ¬ (0 ≤ a ∧ a < n) ∨ ¬ (0 ≤ b ∧ b < n)
  · refine (tlink_range h a b ha).mono ?_
    rintro e w' ⟨rfl, rfl⟩
    exact ⟨_, E, rfl, h.mono (by omega), Chg.refl _ _⟩
  · obtain ⟨a, rfl⟩ := Int.eq_ofNat_of_zero_le (show 0 ≤ a by omega)
    obtain ⟨b, rfl⟩ := Int.eq_ofNat_of_zero_le (show 0 ≤ b by omega)
    by_cases hc : Cn (adj E) a b
    · refine (tlink_clash h a b (by omega) (by omega) hc).mono ?_
      rintro e w' ⟨rfl, hx⟩
      exact ⟨_, E, rfl, (h.ext hx).mono (by omega), Chg.new hx _⟩
    · refine (tlink_ok h hN a b (by omega) (by omega) hc).mono ?_
      rintro e w' ⟨rfl, h1, h2⟩
      exact ⟨_, _, rfl, h1, h2⟩
end
theorem ints_two (w : World) (x y : Int) (t : TypeId) : IntsAt (w.alloc (.cells #[.int .i64 x, .int .i64 y] t)) (some ⟨w.heap.size, 0, none⟩) [x, y] :=
  .inr ⟨w.heap.size, 0, rfl, by simp, fun i v hv => by
    have hb := Blk.new w t #[.int .i64 x, .int .i64 y]
    match i, hv with
    | 0, hv => simp at hv; subst hv; exact hb.cell 0
    | 1, hv => simp at hv; subst hv; exact hb.cell 1
    | i + 2, hv => simp at hv⟩
theorem ints_own {w : World} {A : Option Addr} {c : Nat} {xs : List Int} (h : w.ownsRow 0 3 1 (.slice A xs.length c) xs.length (intsV xs)) : IntsAt w A xs := (IntsAt.of_own h).1
theorem ints_at {w : World} {A : Option Addr} {xs : List Int} {i : Nat} (h : IntsAt w A xs) (hi : i < xs.length) : ∃ b off, A = some ⟨b, off, none⟩ ∧ w.cell? ⟨b, off + i, none⟩ = some (.int .i64 (xs.getD i 0)) := by
  rcases h with h | ⟨b, off, rfl, hb, hc⟩
  · subst h; simp at hi
  · exact ⟨b, off, rfl, hc i _ (by rw [List.getElem?_eq_getElem hi]; simp [List.getD, List.getElem?_eq_getElem hi])⟩
theorem comp_len (n : Nat) (E : List AK.Ed) (a : Nat) : (comp n E a).length ≤ n := by
  unfold comp
  rw [List.length_map]
  exact Nat.le_trans (List.length_filter_le _ _) (by simp)
theorem count_take {xs : List Int} {z : Int} {j : Nat} (hj : j < xs.length) : (xs.take (j + 1)).count z = (xs.take j).count z + if xs.getD j 0 = z then 1 else 0 := by
  rw [take_snocT (List.getElem?_eq_getElem hj), List.count_append]
  simp [List.getD, List.getElem?_eq_getElem hj, List.count_singleton]
set_option maxHeartbeats 4000000 in
set_option maxRecDepth 100000 in
theorem tc_walk (n : Int) (a1 : Option Addr) (len1 cap1 : Nat) (s1 : Nat → Int × Int × Int) (k : Int) (w : World) (hsa : StepsAt w a1 len1 s1 ∧ len1 ≤ cap1 ∧ cap1 ≤ maxLen) (hk : (Lit.int .i64 k).wf = true) :
    Calls Try.prog 3 #[.int .i64 n, .slice a1 len1 cap1, .int .i64 k] w fun e w' => e = .returned (.bool true) ∧ Below w.heap.size w w' := by
  obtain ⟨hs, hlc, hcm⟩ := hsa
  unfold maxLen at hcm
  have HSt := Lib.hid hs
  have HK : Hid (-9223372036854775808 ≤ k ∧ k ≤ 9223372036854775807) := w64_of hk
  clear hs hk
  go_enter Try.func3, Try.ntmps3
  go_wp2_with fail
  refine (tnew_ok w 3 (by omega)).mono ?_
  rintro e w1 ⟨F0, rfl, hf0, hx1, hn1⟩
  have X1 := Lib.hid hx1
  have HF0 : Hid (TcS w w1 F0 3 3 []) := ⟨hf0, hx1, hn1⟩
  clear hf0 hx1 hn1
  go_wp2_with fail
  refine (tlink_ok HF0.out.at_ (by omega) 0 2 (by omega) (by omega) (fun c => by
    have := c.into (R := fun x y => x = y) (fun _ => rfl) (fun u v e => by simp [adj] at e) (fun _ _ h => h.symm) (fun _ _ _ h k => h.trans k)
    omega)).mono ?_
  rintro e w2 ⟨rfl, hf2, hc2⟩
  have HF2 := Lib.hid (HF0.out.step hf2 hc2)
  clear hf2 hc2 HF0 X1
  have HM2 := tmembers_ok HF2.out.at_ 2 (by omega)
  rw [ex_comp] at HM2
  have HM := Lib.hid HM2
  clear HM2
  go_wp2_with fail
  refine HM.out.mono ?_
  rintro e w3 ⟨A3, c3, rfl, ho3, hx3, _⟩
  have I3 := Lib.hid (ints_own ho3)
  have X3 : Hid (Ext w w3) := HF2.out.ext.trans hx3
  clear ho3 hx3 HM HF2
  go_wp2_with fail
  refine (ints_any _ A3 (some ⟨w3.heap.size, 0, none⟩) 2 2 c3 2 [0, 2] [0, 2] (I3.out.ext (Ext.alloc _ _)) (ints_two _ _ _ _) rfl rfl (by omega) (by omega) true rfl).mono ?_
  rintro e w4 ⟨rfl, hx4⟩
  have X4 : Hid (Ext w w4) := X3.out.trans ((Ext.alloc w3 _).trans hx4)
  clear hx4 X3 I3
  by_cases hn : n < 1 ∨ 60 < n
  · go_wp2_with fail
    refine (tnew_no w4 n hn).mono ?_
    rintro e w5 ⟨rfl, rfl⟩
    go_wp2
    go_ret
    exact ⟨rfl, X4.out⟩
  · obtain ⟨n, rfl⟩ := Int.eq_ofNat_of_zero_le (show 0 ≤ n by omega)
    have hn2 : 1 ≤ n ∧ n ≤ 60 := by omega
    clear hn
    go_wp2_with fail
    refine (tnew_ok w4 n hn2).mono ?_
    rintro e w5 ⟨F, rfl, hf5, hx5, hn5, hn5'⟩
    have HT : Hid (TcS w w5 F n n []) := ⟨hf5, X4.out.trans hx5, Nat.le_trans X4.out.size hn5, fun k hk => Nat.le_trans X4.out.size (hn5' k hk)⟩
    clear hf5 hx5 hn5 hn5' X4
    go_upto_block 0 with fail
    go_cut [13] (fun s13 wx => ∃ (N : Nat) (E : List AK.Ed), N ≤ 200 ∧ TcS w wx F n N E)
    case first =>
      go_wp2_with fail
      go_loopw [13] (fun v wr => ∃ k : Nat, k ≤ len1 ∧ k ≤ 80 ∧ v = .int .i64 k ∧ Hid (∃ E, TcS w wr F n (n + k) E)) (fun v _ => len1 - (intOf v).toNat)
      case atStart => exact ⟨0, Nat.zero_le _, Nat.zero_le _, rfl, [], HT.out⟩
      case round =>
        obtain ⟨i, hi, hi8, rfl, HR⟩ := hrel
        clear HT
        by_cases c0 : i < len1 ∧ i < 80
        · obtain ⟨c1, c2⟩ := c0
          obtain ⟨E, hE⟩ := HR.out
          have HE := Lib.hid hE
          rcases HSt.out.chg hE.ext with h0 | ⟨b, off, rfl, hlt, hc⟩
          · omega
          obtain ⟨x, y, hxy, hx, hy⟩ := stepInt wr s1 hc c1
          have z0 : (0 : Int) ≤ (i : Int) := by omega
          have z1 : (i : Int) < (len1 : Int) := by omega
          clear hE hxy hc HR
          go_wp2
          go_still_tail 11, (by kernel_rfl)
          go_wp2_with fail
          refine (tlink_any (HE.out.moved (Ext.drew wr)).at_ (by omega) x y).mono ?_
          rintro e w6 ⟨v, E', rfl, hf6, hc6⟩
          have HN : Hid (∃ E, TcS w w6 F n (n + (i + 1)) E) := ⟨E', (HE.out.moved (Ext.drew wr)).step hf6 hc6⟩
          clear hf6 hc6 HE
          go_wp2
          go_roundw
          case rel => exact ⟨i + 1, by omega, by omega, by go_num, HN⟩
          case measure => simp [intOf]; omega
        · have hii : (i < len1 ∧ ¬ i < 80) ∨ ¬ i < len1 := by omega
          have HE : Hid (∃ (N : Nat) (E : List AK.Ed), N ≤ 200 ∧ TcS w wr F n N E) := by
            obtain ⟨E, hE⟩ := HR.out
            exact ⟨n + i, E, by omega, hE⟩
          clear HR c0
          rcases hii with ⟨c1, c2⟩ | c1
          all_goals
            go_wp2
            go_meet
            exact HE.out
    case rest =>
      obtain ⟨N, E, hN, hE⟩ := hcut
      have HE := Lib.hid hE
      have hEn : E.length ≤ n := hE.at_.fo.len
      clear hE HT
      go_wp2_with fail
      refine (tedges_any HE.out.at_).mono ?_
      rintro e w6 ⟨A6, c6, rfl, hd6, hx6, hn6⟩
      have H6 : Hid (TcS w w6 F n N E) := HE.out.moved hx6
      have D6 : Hid (EdsAt w6 A6 E) := (DRow.eds hd6 rfl).1
      have HA6 : Hid (∀ x, A6 = some x → ¬ F.S x.block) := fun x hx hk => by
        have h1 := HE.out.at_.lt.2 _ hk
        rcases hd6.2 with ⟨h2, _⟩ | ⟨g', c', cur, h2, _⟩
        · simp at h2; rw [h2.1] at hx; cases hx
        · simp only [Value.slice.injEq] at h2
          have h3 := hn6 g' (by rw [h2.1]; simp [Value.ownBlock])
          rw [h2.1] at hx
          injection hx with hx
          subst hx
          simp only at h1
          omega
      clear hd6 hx6 hn6 HE
      go_wp2
      go_loopw [15, 16] (fun v15 v16 wr => ∃ i t : Nat, i ≤ n ∧ t ≤ i ∧ v15 = .int .i64 t ∧ v16 = .int .i64 i ∧ Hid (t = PD.cnt (ldr E) i ∧ TcS w wr F n N E ∧ EdsAt wr A6 E)) (fun _ v16 _ => n - (intOf v16).toNat)
      case atStart => exact ⟨0, 0, Nat.zero_le _, Nat.le_refl _, rfl, rfl, rfl, H6.out, D6.out⟩
      case round =>
        obtain ⟨i, t, hi, hti, rfl, rfl, HR⟩ := hrel
        clear H6 D6
        by_cases hlt : i < n
        · obtain ⟨h0, r0, hcomp, hhd⟩ := comp_head (E := E) hlt
          have hcnt : PD.cnt (ldr E) (i + 1) = PD.cnt (ldr E) i + if ldr E i = true then 1 else 0 := rfl
          have z1 : (i : Int) < (n : Int) := by omega
          have HC := Lib.hid hcnt
          have HH := Lib.hid hhd
          have HM2 := tmembers_ok HR.out.2.1.at_ i hlt
          rw [hcomp] at HM2
          have HM := Lib.hid HM2
          clear HM2 hcnt hhd hcomp
          go_wp2_with fail
          refine HM.out.mono ?_
          rintro e w7 ⟨A7, c7, rfl, ho7, hx7, _⟩
          have H7 : Hid (TcS w w7 F n N E) := HR.out.2.1.moved hx7
          have D7 : Hid (EdsAt w7 A6 E) := HR.out.2.2.ext hx7
          obtain ⟨b7, o7, hA, hc7⟩ := ints_at (i := 0) (ints_own ho7) (by simp)
          subst hA
          have c70 : w7.cell? ⟨b7, o7, none⟩ = some (.int .i64 h0) := by simpa using hc7
          have HT0 : Hid (t = PD.cnt (ldr E) i) := HR.out.1
          have zl : ¬ ((r0.length : Int) + 1 = 0) := by omega
          have zl2 : (((h0 : Int) :: r0).length : Int) = (r0.length : Int) + 1 := by simp
          have zl3 : 0 < ((h0 : Int) :: r0).length := by simp
          have zl4 : ¬ (((h0 : Int) :: r0).length : Int) = 0 := by rw [zl2]; omega
          have zl5 : (0 : Int) < (((h0 : Int) :: r0).length : Int) := by rw [zl2]; omega
          clear ho7 hx7 HM HR hc7
          generalize ((h0 : Int) :: r0).length = L7 at zl2 zl3 zl4 zl5 ⊢
          by_cases e : h0 = i
          · have q : ((h0 : Int) == (i : Int)) = true := by rw [beq_iff_eq]; omega
            have HZ : Hid (t + 1 = PD.cnt (ldr E) (i + 1)) := by rw [Hid, HC.out, if_pos (HH.out.1 e), HT0.out]
            clear e
            go_wp2
            go_roundw
            case rel => exact ⟨i + 1, t + 1, by omega, by omega, by go_num, by go_num, HZ.out, H7.out, D7.out⟩
            case measure => simp [intOf]; omega
          · have q : ((h0 : Int) == (i : Int)) = false := by rw [beq_eq_false_iff_ne]; omega
            have HZ : Hid (t = PD.cnt (ldr E) (i + 1)) := by rw [Hid, HC.out, if_neg (fun w => e (HH.out.2 w)), HT0.out]; rfl
            clear e
            go_wp2
            go_roundw
            case rel => exact ⟨i + 1, t, by omega, by omega, rfl, by go_num, HZ.out, H7.out, D7.out⟩
            case measure => simp [intOf]; omega
        · obtain rfl : i = n := by omega
          have hcnt := ldr_count HR.out.2.1.at_.fo
          have ht : t + E.length = i := by rw [HR.out.1]; exact hcnt
          have HX : Hid (TcS w wr F i N E ∧ EdsAt wr A6 E ∧ ∀ x, A6 = some x → ¬ F.S x.block) := ⟨HR.out.2.1, HR.out.2.2, HA6.out⟩
          have q1 : (t : Int) = (i : Int) - (E.length : Int) := by omega
          have q2 : ((t : Int) == (i : Int) - (E.length : Int)) = true := by simp; omega
          clear hcnt HR
          by_cases hE0 : E.length = 0
          · have q3 : ((E.length : Int) == 0) = true := by rw [beq_iff_eq]; omega
            go_wp2
            go_ret
            exact ⟨rfl, HX.out.1.ext⟩
          · have q3 : ((E.length : Int) == 0) = false := by rw [beq_eq_false_iff_ne]; omega
            have hE1 : 0 < E.length := by omega
            go_wp2_with fail
            refine (pick_any wr k E.length HK.out hE1 (by omega)).mono ?_
            rintro e w8 ⟨d, rfl, hdE, rfl⟩
            obtain ⟨x, hx⟩ : ∃ x, E[d]? = some x := ⟨_, List.getElem?_eq_getElem hdE⟩
            have hxm := List.mem_of_getElem? hx
            have hxo := HX.out.1.at_.fo.ok x hxm
            obtain ⟨u, hu⟩ := Int.eq_ofNat_of_zero_le hxo.1
            obtain ⟨v, hv⟩ := Int.eq_ofNat_of_zero_le (show 0 ≤ x.2 by omega)
            have hxe : x = ((u : Int), (v : Int)) := Prod.ext hu hv
            subst hxe
            simp only at hxo
            have huv : u < v := by omega
            have hvn : v < i := by omega
            have hun : u < i := by omega
            have hadj : adj E u v := .inl hxm
            have HADJ := Lib.hid hadj
            have CC := Lib.hid (cut_c HX.out.1.at_.fo hadj)
            have hek : AK.ek (u : Int) v = ((u : Int), (v : Int)) := by unfold AK.ek; rw [Int.min_eq_left (by omega), Int.max_eq_right (by omega)]
            have HPE := Lib.hid HX.out.1.at_.fo
            have HEM : Hid (AK.ek (u : Int) v ∈ E) := by unfold Hid; rw [hek]; exact hxm
            rcases HX.out.2.1 with h0 | ⟨b6, o6, hA, hb6, hc6'⟩
            · subst h0; simp at hE1
            subst hA
            obtain ⟨g1, g2⟩ := hc6' d _ hx
            simp only at g1 g2
            have zd : (d : Int) < (E.length : Int) := by omega
            have HED : Hid (EdsAt wr (some ⟨b6, o6, none⟩) E) := HX.out.2.1
            have HB6S : Hid (¬ F.S b6) := HX.out.2.2 _ rfl
            have H8 : Hid (TcS w wr F i N E) := HX.out.1
            clear hx hxm hxo hu hv hadj hc6' HX q1 q2 q3 hek
            go_wp2_with fail
            have hG1 : ¬ F.S wr.heap.size := fun hk => by have := H8.out.at_.lt.2 _ hk; omega
            have B9 : Hid (Blk (wr.alloc (.cells #[.int .i64 (u : Nat), .int .i64 (v : Nat)] 38)) wr.heap.size 38 #[.int .i64 (u : Nat), .int .i64 (v : Nat)]) := Blk.new wr _ _
            have H9 : Hid (TcS w (wr.alloc (.cells #[.int .i64 (u : Nat), .int .i64 (v : Nat)] 38)) F i N E) := H8.out.moved (Ext.alloc _ _)
            have D9 : Hid (EdsAt (wr.alloc (.cells #[.int .i64 (u : Nat), .int .i64 (v : Nat)] 38)) (some ⟨b6, o6, none⟩) E) := HED.out.ext (Ext.alloc _ _)
            obtain ⟨G, hGe⟩ : ∃ G, wr.heap.size = G := ⟨_, rfl⟩
            rw [hGe] at B9 hG1 ⊢
            have HB6 : Hid (b6 < G) := by rw [Hid, ← hGe]; exact hb6
            clear hGe
            generalize wr.alloc (.cells #[.int .i64 (u : Nat), .int .i64 (v : Nat)] 38) = w9 at B9 H9 D9 ⊢
            have HG := Lib.hid hG1
            clear H8 HED hb6 g1 g2 hG1
            refine (tmembers_ok H9.out.at_ u hun).mono ?_
            rintro e w10 ⟨A10, c10, rfl, ho10, hx10, hn10⟩
            have W10 := Lib.hid (ints_own ho10)
            have H10 := Lib.hid (H9.out.moved hx10)
            have B10 := Lib.hid (B9.out.chg (Chg.of_below hx10) (by have := B9.out.lt; omega))
            have D10 := Lib.hid (D9.out.ext hx10)
            have HN10 : Hid (∀ k, F.S k → (comp i E u) ≠ [] → ∀ x, A10 = some x → x.block ≠ k) := fun k hk hne x hx e => by
              have h1 := H9.out.at_.lt.2 k hk
              rcases ho10.2 with ⟨h2, _⟩ | ⟨g', c', cur, h2, _⟩
              · simp at h2; rw [h2.1] at hx; cases hx
              · simp only [Value.slice.injEq] at h2
                have h3 := hn10 g' (by rw [h2.1]; simp [Value.ownBlock])
                rw [h2.1] at hx
                injection hx with hx
                subst hx
                simp only at e
                omega
            have y0 : w10.cell? ⟨G, 0, none⟩ = some (.int .i64 (u : Nat)) := B10.out.cell 0
            have y1 : w10.cell? ⟨G, 1, none⟩ = some (.int .i64 (v : Nat)) := B10.out.cell 1
            clear ho10 hx10 hn10 H9 B9 D9
            go_wp2_with fail
            refine (tcut_ok H10.out.at_ (by omega) u v HADJ.out).mono ?_
            rintro e w11 ⟨rfl, hf11, hc11⟩
            have H11 := Lib.hid (H10.out.step hf11 hc11)
            have B11 := Lib.hid (B10.out.chg hc11 HG.out)
            have W11 : Hid (IntsAt w11 A10 (comp i E u)) := by
              rcases W10.out with h0 | ⟨b, o, hA, hb, hc⟩
              · exact .inl h0
              · by_cases hne : comp i E u = []
                · exact .inl hne
                · exact .inr ⟨b, o, hA, Nat.lt_of_lt_of_le hb hc11.size, fun j z hz => (hc11.cell (p := ⟨b, _, none⟩) hb (fun hk => HN10.out b hk hne _ hA rfl)).trans (hc j z hz)⟩
            have D11 : Hid (EdsAt w11 (some ⟨b6, o6, none⟩) E) := by
              refine D10.out.chg hc11 fun hne x hx hk => ?_
              injection hx with hx
              subst hx
              exact HB6S.out hk
            have y0 : w11.cell? ⟨G, 0, none⟩ = some (.int .i64 (u : Nat)) := B11.out.cell 0
            have y1 : w11.cell? ⟨G, 1, none⟩ = some (.int .i64 (v : Nat)) := B11.out.cell 1
            clear hf11 hc11 H10 B10 W10 D10
            go_wp2_with fail
            refine (tsame_ok H11.out.at_ u v hun hvn false (by simp [CC.out.no])).mono ?_
            rintro e w12 ⟨rfl, hx12⟩
            have H12 := Lib.hid (H11.out.moved hx12)
            have B12 := Lib.hid (B11.out.chg (Chg.of_below hx12) (by have := B11.out.lt; omega))
            have W12 := Lib.hid (W11.out.ext hx12)
            have D12 := Lib.hid (D11.out.ext hx12)
            have y0 : w12.cell? ⟨G, 0, none⟩ = some (.int .i64 (u : Nat)) := B12.out.cell 0
            clear hx12 H11 B11 W11 D11
            go_wp2_with fail
            refine (tmembers_ok H12.out.at_ u hun).mono ?_
            rintro e w13 ⟨A13, c13, rfl, ho13, hx13, _⟩
            have H13 := Lib.hid (H12.out.moved hx13)
            have B13 := Lib.hid (B12.out.chg (Chg.of_below hx13) (by have := B12.out.lt; omega))
            have W13 := Lib.hid (W12.out.ext hx13)
            have D13 := Lib.hid (D12.out.ext hx13)
            have U13 := Lib.hid (ints_own ho13)
            have y1 : w13.cell? ⟨G, 1, none⟩ = some (.int .i64 (v : Nat)) := B13.out.cell 1
            clear ho13 hx13 H12 B12 W12 D12
            go_wp2_with fail
            refine (tmembers_ok H13.out.at_ v hvn).mono ?_
            rintro e w14 ⟨A14, c14, rfl, ho14, hx14, _⟩
            have H14 := Lib.hid (H13.out.moved hx14)
            have B14 := Lib.hid (B13.out.chg (Chg.of_below hx14) (by have := B13.out.lt; omega))
            have W14 := Lib.hid (W13.out.ext hx14)
            have D14 := Lib.hid (D13.out.ext hx14)
            have U14 := Lib.hid (U13.out.ext hx14)
            have V14 := Lib.hid (ints_own ho14)
            have CL := cut_len CC.out (n := i)
            have HCNT := Lib.hid (cut_count CC.out (n := i))
            have l1 := comp_len i E u
            clear ho14 hx14 H13 B13 W13 D13 U13
            obtain ⟨Wl, hWl⟩ : ∃ l, l = comp i E u := ⟨_, rfl⟩
            obtain ⟨Ul, hUl⟩ : ∃ l, l = comp i (cutE (AK.ek u v) E) u := ⟨_, rfl⟩
            obtain ⟨Vl, hVl⟩ : ∃ l, l = comp i (cutE (AK.ek u v) E) v := ⟨_, rfl⟩
            have HWL := Lib.hid hWl
            rw [← hWl, ← hUl, ← hVl] at CL HCNT
            rw [← hWl] at W14 l1 HN10 ⊢
            rw [← hUl] at U14 ⊢
            rw [← hVl] at V14 ⊢
            clear hWl hUl hVl
            obtain ⟨lw, hlw⟩ : ∃ l, Wl.length = l := ⟨_, rfl⟩
            obtain ⟨lu, hlu⟩ : ∃ l, Ul.length = l := ⟨_, rfl⟩
            obtain ⟨lv, hlv⟩ : ∃ l, Vl.length = l := ⟨_, rfl⟩
            have LW := Lib.hid hlw
            have LU := Lib.hid hlu
            have LV := Lib.hid hlv
            rw [hlw, hlu, hlv] at CL
            rw [hlw] at l1
            rw [hlw, hlu, hlv]
            clear hlw hlu hlv
            have q5 : (lu : Int) + (lv : Int) = (lw : Int) := by omega
            have q6 : lw ≤ 60 := by omega
            have q7 : IntKind.i64.wrap (lw : Int) = (lw : Int) := IntWalk.i64_in _ (by omega)
            go_wp2_with fail
            go_loopw [29] (fun v29 wr2 => ∃ j : Nat, j ≤ lw ∧ v29 = .int .i64 j ∧ Hid (Ext w14 wr2)) (fun v29 _ => lw - (intOf v29).toNat)
            case atStart => exact ⟨0, Nat.zero_le _, rfl, Ext.refl _⟩
            case round =>
              obtain ⟨j, hj, rfl, HX⟩ := hrel
              by_cases hjl : j < lw
              · have p0 : (j : Int) < (lw : Int) := by omega
                have p1 : (0 : Int) ≤ (j : Int) := by omega
                go_wp2
                go_loopw [30, 31] (fun v30 v31 wr3 => ∃ c m : Nat, m ≤ lu ∧ c ≤ m ∧ v30 = .int .i64 c ∧ v31 = .int .i64 m ∧ Hid (c = (Ul.take m).count (Wl.getD j 0) ∧ Ext w14 wr3)) (fun _ v31 _ => lu - (intOf v31).toNat)
                case atStart => exact ⟨0, 0, Nat.zero_le _, Nat.le_refl _, rfl, rfl, by simp, HX.out⟩
                case round =>
                  obtain ⟨c, m, hm, hcm', rfl, rfl, HY⟩ := hrel
                  by_cases hml : m < lu
                  · have p2 : (m : Int) < (lu : Int) := by omega
                    have p3 : (0 : Int) ≤ (m : Int) := by omega
                    have HCT := Lib.hid (count_take (xs := Ul) (z := Wl.getD j 0) (j := m) (by rw [LU.out]; exact hml))
                    obtain ⟨bU, oU, hA, cU⟩ := ints_at (U14.out.ext HY.out.2) (show m < Ul.length by rw [LU.out]; exact hml)
                    subst hA
                    obtain ⟨bW, oW, hA, cW⟩ := ints_at (W14.out.ext HY.out.2) (show j < Wl.length by rw [LW.out]; exact hjl)
                    subst hA
                    by_cases e : Ul.getD m 0 = Wl.getD j 0
                    · have q : (Ul.getD m 0 == Wl.getD j 0) = true := by rw [beq_iff_eq]; exact e
                      have HZ : Hid (c + 1 = (Ul.take (m + 1)).count (Wl.getD j 0)) := by rw [Hid, HCT.out, if_pos e, HY.out.1]
                      have HE3 := Lib.hid HY.out.2
                      clear e HY
                      generalize Ul.getD m 0 = zU at cU q
                      generalize hzW : Wl.getD j 0 = zW at cW q HZ ⊢
                      go_wp2
                      go_quiet (fail)
                      go_wp2
                      go_roundw
                      case rel => exact ⟨c + 1, m + 1, by omega, by omega, by go_num, by go_num, by first | exact HZ.out | (rw [hzW]; exact HZ.out) , HE3.out.trans (Ext.drewN _ _)⟩
                      case measure => simp [intOf]; omega
                    · have q : (Ul.getD m 0 == Wl.getD j 0) = false := by rw [beq_eq_false_iff_ne]; exact e
                      have HZ : Hid (c = (Ul.take (m + 1)).count (Wl.getD j 0)) := by rw [Hid, HCT.out, if_neg e, HY.out.1]; rfl
                      have HE3 := Lib.hid HY.out.2
                      clear e HY
                      generalize Ul.getD m 0 = zU at cU q
                      generalize hzW : Wl.getD j 0 = zW at cW q HZ ⊢
                      go_wp2
                      go_quiet (fail)
                      go_wp2
                      go_roundw
                      case rel => exact ⟨c, m + 1, by omega, by omega, rfl, by go_num, by first | exact HZ.out | (rw [hzW]; exact HZ.out), HE3.out.trans (Ext.drewN _ _)⟩
                      case measure => simp [intOf]; omega
                  · obtain rfl : m = lu := by omega
                    have HY2 : Hid (c = Ul.count (Wl.getD j 0) ∧ Ext w14 wr) := ⟨by rw [HY.out.1, List.take_of_length_le (by rw [LU.out]; exact Nat.le_refl _)], HY.out.2⟩
                    clear HY
                    go_wp2
                    go_loopw [30, 32] (fun v30 v32 wr3 => ∃ c m : Nat, m ≤ lv ∧ c ≤ 60 + m ∧ v30 = .int .i64 c ∧ v32 = .int .i64 m ∧ Hid (c = Ul.count (Wl.getD j 0) + (Vl.take m).count (Wl.getD j 0) ∧ Ext w14 wr3)) (fun _ v32 _ => lv - (intOf v32).toNat)
                    case atStart => exact ⟨c, 0, Nat.zero_le _, by omega, rfl, rfl, by rw [HY2.out.1]; simp, HY2.out.2⟩
                    case round =>
                      clear HY2
                      obtain ⟨c, m, hm, hcm', rfl, rfl, HY⟩ := hrel
                      by_cases hml : m < lv
                      · have p2 : (m : Int) < (lv : Int) := by omega
                        have p3 : (0 : Int) ≤ (m : Int) := by omega
                        have HCT := Lib.hid (count_take (xs := Vl) (z := Wl.getD j 0) (j := m) (by rw [LV.out]; exact hml))
                        obtain ⟨bU, oU, hA, cU⟩ := ints_at (V14.out.ext HY.out.2) (show m < Vl.length by rw [LV.out]; exact hml)
                        subst hA
                        obtain ⟨bW, oW, hA, cW⟩ := ints_at (W14.out.ext HY.out.2) (show j < Wl.length by rw [LW.out]; exact hjl)
                        subst hA
                        by_cases e : Vl.getD m 0 = Wl.getD j 0
                        · have q : (Vl.getD m 0 == Wl.getD j 0) = true := by rw [beq_iff_eq]; exact e
                          have HZ : Hid (c + 1 = Ul.count (Wl.getD j 0) + (Vl.take (m + 1)).count (Wl.getD j 0)) := by rw [Hid, HCT.out, if_pos e, HY.out.1]; omega
                          have HE3 := Lib.hid HY.out.2
                          clear e HY
                          generalize Vl.getD m 0 = zU at cU q
                          generalize hzW : Wl.getD j 0 = zW at cW q HZ ⊢
                          go_wp2
                          go_quiet (fail)
                          go_wp2
                          go_roundw
                          case rel => exact ⟨c + 1, m + 1, by omega, by omega, by go_num, by go_num, by first | exact HZ.out | (rw [hzW]; exact HZ.out), HE3.out.trans (Ext.drewN _ _)⟩
                          case measure => simp [intOf]; omega
                        · have q : (Vl.getD m 0 == Wl.getD j 0) = false := by rw [beq_eq_false_iff_ne]; exact e
                          have HZ : Hid (c = Ul.count (Wl.getD j 0) + (Vl.take (m + 1)).count (Wl.getD j 0)) := by rw [Hid, HCT.out, if_neg e, HY.out.1]; rfl
                          have HE3 := Lib.hid HY.out.2
                          clear e HY
                          generalize Vl.getD m 0 = zU at cU q
                          generalize hzW : Wl.getD j 0 = zW at cW q HZ ⊢
                          go_wp2
                          go_quiet (fail)
                          go_wp2
                          go_roundw
                          case rel => exact ⟨c, m + 1, by omega, by omega, rfl, by go_num, by first | exact HZ.out | (rw [hzW]; exact HZ.out), HE3.out.trans (Ext.drewN _ _)⟩
                          case measure => simp [intOf]; omega
                      · obtain rfl : m = lv := by omega
                        have hc1 : c = 1 := by
                          rw [HY.out.1, List.take_of_length_le (by rw [LV.out]; exact Nat.le_refl _)]
                          have hjw : j < Wl.length := by rw [LW.out]; exact hjl
                          refine HCNT.out _ ?_
                          simp [List.getD, List.getElem?_eq_getElem hjw]
                        subst hc1
                        have HE4 := Lib.hid HY.out.2
                        clear HY
                        go_wp2
                        go_roundw
                        case rel => exact ⟨j + 1, by omega, by go_num, HE4⟩
                        case measure => simp [intOf]; omega
              · obtain rfl : j = lw := by omega
                have H15 := Lib.hid (H14.out.moved HX.out)
                have B15 := Lib.hid (B14.out.chg (Chg.of_below HX.out) (by have := B14.out.lt; omega))
                have W15 := Lib.hid (W14.out.ext HX.out)
                have D15 := Lib.hid (D14.out.ext HX.out)
                have y0 : wr.cell? ⟨G, 0, none⟩ = some (.int .i64 (u : Nat)) := B15.out.cell 0
                have y1 : wr.cell? ⟨G, 1, none⟩ = some (.int .i64 (v : Nat)) := B15.out.cell 1
                clear H14 B14 W14 D14 U14 V14 HX HCNT
                go_wp2_with fail
                refine (tlink_ok H15.out.at_ (by omega) u v hun hvn CC.out.no).mono ?_
                rintro e w16 ⟨rfl, hf16, hc16⟩
                rw [putE_cutE HPE.out HEM.out] at hf16
                have H16 := Lib.hid (H15.out.step hf16 hc16)
                have B16 := Lib.hid (B15.out.chg hc16 HG.out)
                have W16 : Hid (IntsAt w16 A10 Wl) := by
                  rcases W15.out with h0 | ⟨b, o, hA, hb, hc⟩
                  · exact .inl h0
                  · by_cases hne : Wl = []
                    · exact .inl hne
                    · exact .inr ⟨b, o, hA, Nat.lt_of_lt_of_le hb hc16.size, fun j z hz => (hc16.cell (p := ⟨b, _, none⟩) hb (fun hk => HN10.out b hk hne _ hA rfl)).trans (hc j z hz)⟩
                have D16 : Hid (EdsAt w16 (some ⟨b6, o6, none⟩) E) := by
                  refine D15.out.chg hc16 fun hne x hx hk => ?_
                  injection hx with hx
                  subst hx
                  exact HB6S.out hk
                have y1 : w16.cell? ⟨G, 1, none⟩ = some (.int .i64 (v : Nat)) := B16.out.cell 1
                clear hf16 hc16 H15 B15 W15 D15 HN10
                have hM := tmembers_ok H16.out.at_ v hvn
                rw [← comp_same CC.out.uv, ← HWL.out] at hM
                have HM17 := Lib.hid hM
                clear hM
                go_wp2_with fail
                refine HM17.out.mono ?_
                rintro e w17 ⟨A17, c17, rfl, ho17, hx17, _⟩
                have H17 := Lib.hid (H16.out.moved hx17)
                have W17 := Lib.hid (W16.out.ext hx17)
                have D17 := Lib.hid (D16.out.ext hx17)
                have U17 := Lib.hid (ints_own ho17)
                clear ho17 hx17 H16 W16 D16 B16 HM17
                rw [LW.out]
                go_wp2_with fail
                refine (ints_any w17 A17 A10 j j c17 c10 Wl Wl U17.out W17.out LW.out LW.out (by omega) (by omega) true (by simp)).mono ?_
                rintro e w18 ⟨rfl, hx18⟩
                have H18 := Lib.hid (H17.out.moved hx18)
                have D18 := Lib.hid (D17.out.ext hx18)
                clear hx18 H17 W17 D17 U17
                go_wp2_with fail
                refine (tedges_any H18.out.at_).mono ?_
                rintro e w19 ⟨A19, c19, rfl, hd19, hx19, _⟩
                have D19 := Lib.hid (D18.out.ext hx19)
                have K19 : Hid (EdsAt w19 A19 E) := (DRow.eds hd19 rfl).1
                have X19 : Hid (Ext w w19) := H18.out.ext.trans hx19
                clear hd19 hx19 H18 D18
                go_wp2_with fail
                refine (sedges_any w19 A19 (some ⟨b6, o6, none⟩) E.length E.length c19 c6 E E K19.out D19.out rfl rfl (by omega) (by omega) true (by simp)).mono ?_
                rintro e w20 ⟨rfl, hx20⟩
                have X20 : Hid (Ext w w20) := X19.out.trans hx20
                clear hx20 X19 D19 K19
                go_wp2
                go_ret
                exact ⟨rfl, X20.out⟩
end Go.Proofs.Ythhobjoahfmliaa

/-
  Walk of path.Short. Conditions: the edges lie in memory as 'EdsAt' says.
  What Short leaves, by case. No conditions.
  Walk of path.Ring. Conditions: the edges lie in memory as 'EdsAt' says.
-/
import Derived.Test.YtckcbfnffmohgaaGreatTt51
import Derived.Test.YtckcbfnffmohgaaGreatTt47
import Derived.Test.YtckcbfnffmohgaaGreatTt49
import Derived.Deep.RegionHeld3
import Derived.Deep.RegionHeldLaw
namespace Go.Proofs.YtckcbfnffmohgaaGreat
open Go Go.RowKit
set_option linter.unusedVariables false

theorem next_at {n : Nat} {l : List AK.Ed} {d : List Int} {N : List Nat} {y i c : Nat} (hN : ∀ x, x ∈ N ↔ (x < n ∧ PD.adj l y x)) (hs : N.Pairwise (fun x y => x ≤ y)) (hc : N[i]? = some c) (hd : PD.g d c = PD.g d y - 1) (hno : ∀ j z, j < i → N[j]? = some z → PD.g d z ≠ PD.g d y - 1) : PD.Next n l d y c := by
  have hm := (hN c).1 (List.mem_of_getElem? hc)
  refine ⟨hm.1, hm.2, hd, fun c' hlt hadj he => ?_⟩
  obtain ⟨j, hj⟩ := List.getElem?_of_mem ((hN c').2 ⟨by have := hm.1; omega, hadj⟩)
  by_cases h1 : j < i
  · exact hno j c' h1 hj he
  · by_cases h2 : j = i
    · subst h2; rw [hc] at hj; injection hj with hj; omega
    · have h3 := (List.getElem?_eq_some_iff.1 hj).1
      have h4 := (List.getElem?_eq_some_iff.1 hc).1
      have h5 := (List.pairwise_iff_getElem.1 hs) i j h4 h3 (by omega)
      rw [(List.getElem?_eq_some_iff.1 hc).2, (List.getElem?_eq_some_iff.1 hj).2] at h5
      omega
/-- A way as it lies. -/
structure WyR (w : World) (k : Nat) (l : List AK.Ed) (d : List Int) (x y : Nat) (v : Value) (wr : World) : Prop where
  all : ∃ out, PD.On k l d x y out ∧ wr.ownsRow 0 3 1 v out.length (natsV out) ∧ out.length + (PD.g d y).toNat ≤ 100
  own : ∀ j, v.ownBlock = some j → w.heap.size ≤ j
  ext : Ext w wr
  y : y < k ∧ 0 ≤ PD.g d y
theorem natsV_snoc (q : List Nat) (x : Nat) : natsV (q ++ [x]) = natsV q ++ [.int .i64 (x : Int)] := by simp [natsV]
theorem WyR.moved {w wr w' : World} {k : Nat} {l : List AK.Ed} {d : List Int} {x y : Nat} {v : Value} (h : WyR w k l d x y v wr) (hx : Ext wr w') : WyR w k l d x y v w' := by
  obtain ⟨out, h1, h2, h3⟩ := h.all
  exact ⟨⟨out, h1, own_chg h2 (Chg.of_below hx) (fun j hj => by have := own_lt h2 hj; omega), h3⟩, h.own, Ext.trans h.ext hx, h.y⟩
theorem WyR.push {w wr w' : World} {k : Nat} {l : List AK.Ed} {d : List Int} {x y c g cc : Nat} {v : Value} {out : List Nat} (hon : PD.On k l d x y out) (hlen : out.length + (PD.g d y).toNat ≤ 100) (hown : ∀ j, v.ownBlock = some j → w.heap.size ≤ j) (hx : Ext w wr) (h0 : 0 < PD.g d y) (hn : PD.Next k l d y c)
    (ho : w'.ownsRow 0 3 1 (.slice (some ⟨g, 0, none⟩) (out.length + 1) cc) (out.length + 1) (natsV out ++ [.int .i64 (c : Int)])) (hc : Chg (fun j => v.ownBlock = some j) wr w') (hat : v.ownBlock = some g ∨ g = wr.heap.size) : WyR w k l d x c (.slice (some ⟨g, 0, none⟩) (out.length + 1) cc) w' := by
  refine ⟨⟨out ++ [c], hon.step h0 hn, by rw [natsV_snoc, List.length_append]; exact ho, ?_⟩, fun j hj => ?_, ((Chg.of_below hx).trans hc (fun j _ hj => hown j hj)).below (Nat.le_refl _) (fun _ _ h => h), hn.lt, by have := hn.val; omega⟩
  · have := hn.val; simp; omega
  · simp [Value.ownBlock] at hj; subst hj
    rcases hat with hat | hat
    · exact hown _ hat
    · have := hx.size; omega
/-- What Short leaves. -/
def ShPost (w : World) (n : Int) (l : List AK.Ed) (a b : Int) (e : Ending) (w' : World) : Prop :=
  Ext w w' ∧ ((ckF n l [a, b] ≠ 0 ∧ e = .returned (.tuple #[.slice none 0 0, errOf (ckF n l [a, b])])) ∨
    ∃ (k x y : Nat) (d : List Int), ckF n l [a, b] = 0 ∧ n = (k : Int) ∧ a = (x : Int) ∧ b = (y : Int) ∧ PD.IsDist k l y d ∧
      ((PD.g d x < 0 ∧ e = .returned (.tuple #[.slice none 0 0, errOf 4])) ∨
       (0 ≤ PD.g d x ∧ ∃ A c p, e = .returned (.tuple #[.slice A p.length c, .nilIface]) ∧ PD.Way k l d x p ∧ w'.ownsRow 0 3 1 (.slice A p.length c) p.length (natsV p) ∧ p.length ≤ 100)))
set_option maxHeartbeats 2000000 in
set_option maxRecDepth 100000 in
theorem short_any (w : World) (n : Int) (A : Option Addr) (m c : Nat) (l : List AK.Ed) (hl : l.length = m) (hlm : m ≤ 9223372036854775807) (h : EdsAt w A l) (a b : Int) :
    Calls Tryz.prog 38 #[.int .i64 n, .slice A m c, .int .i64 a, .int .i64 b] w (ShPost w n l a b) := by
  have H := Lib.hid h
  have HL := Lib.hid hl
  have HI1 : Hid (IntsAt (w.alloc (.cells #[.int .i64 a, .int .i64 b] 3)) (some ⟨w.heap.size, 0, none⟩) [a, b]) := by
    refine .inr ⟨w.heap.size, 0, rfl, by simp, fun i v hv => ?_⟩
    have hb := Blk.new w 3 #[.int .i64 a, .int .i64 b]
    match i, hv with
    | 0, hv => simp at hv; subst hv; exact hb.cell 0
    | 1, hv => simp at hv; subst hv; exact hb.cell 1
  clear h hl
  go_enter Tryz.func38, Tryz.ntmps38
  go_wp2
  go_step3
  go_wp2_with fail
  refine (checked_any _ n A m c l HL.out hlm (H.out.ext (Ext.alloc w _)) (some ⟨w.heap.size, 0, none⟩) 2 2 [a, b] HI1.out rfl (by omega)).mono ?_
  rintro e w1 ⟨rfl, hx1⟩
  have HX1 : Hid (Ext w w1) := Ext.trans (Ext.alloc _ _) hx1
  clear hx1 HI1
  by_cases h0 : ckF n l [a, b] = 0
  · rw [h0, errOf_0]
    obtain ⟨k, rfl, hk0, hk60, hf, _, hz⟩ := ckF_zero h0
    obtain ⟨x, rfl, hxk⟩ := hz a (by simp)
    obtain ⟨y, rfl, hyk⟩ := hz b (by simp)
    have HF := Lib.hid hf
    have H0 := Lib.hid h0
    clear hf hz h0
    go_wp2_with fail
    refine (beside_any w1 k A m c l HL.out (H.out.ext HX1.out) HF.out hk0 hk60).mono ?_
    rintro e w2 ⟨G, cG, N, rfl, hb, hN, hs, hx2⟩
    have HX2 : Hid (Ext w w2) := Ext.trans HX1.out hx2
    have HB := Lib.hid hb
    have HN := Lib.hid hN
    have HS := Lib.hid hs
    clear hb hN hx2 hs
    go_wp2_with fail
    refine (far_any w2 k y G cG l N HB.out HN.out hyk hk60).mono ?_
    rintro e w3 ⟨gd, cd, d, rfl, hd, hr⟩
    have HX3 : Hid (Ext w w3) := Ext.trans HX2.out hr.ext
    have HB3 : Hid (BesAt w3 G k N) := HB.out.ext hr.ext
    have HD := Lib.hid hd
    have HR : Hid (DRw w k gd cd d w3) := ⟨hr.row, HX3.out, Nat.le_trans HX2.out.size hr.new⟩
    obtain ⟨cx, fx⟩ := hr.cell hd.len hxk
    have hxk' : (x : Int) < (k : Int) := by omega
    clear hd hr
    obtain ⟨dx, hdx⟩ : ∃ z, PD.g d x = z := ⟨_, rfl⟩
    rw [hdx] at cx
    have HDX := Lib.hid hdx
    clear hdx
    by_cases hneg : dx < 0
    · have HP : Hid (ShPost w k l x y (.returned (.tuple #[.slice none 0 0, errOf 4])) w3) := ⟨HX3.out, .inr ⟨k, x, y, d, H0.out, rfl, rfl, rfl, HD.out, .inl ⟨by rw [HDX.out]; exact hneg, rfl⟩⟩⟩
      go_wp2
      go_ret2
      exact HP.out
    · go_wp2
      go_step3
      have HW0 : Hid (WyR w3 k l d x x (.slice (some ⟨w3.heap.size, 0, none⟩) 1 1) (w3.alloc (.cells #[.int .i64 (x : Int)] 3))) := by
        refine ⟨⟨[x], PD.On.start k l d x, by simpa [natsV] using World.ownsRow_lit w3 #[.int .i64 (x : Int)] (e := 3) (size := 1) (base := 0) 1 (Nat.zero_le _) (by unfold maxLen; omega) rfl, ?_⟩, fun j hj => by simp [Value.ownBlock] at hj; omega, Ext.alloc _ _, hxk, by rw [HDX.out]; omega⟩
        have := HD.out.toBase.below hxk
        simp; omega
      go_wp2
      go_loopw [2, 13] (fun v2 v13 wr => ∃ z : Nat, v2 = .int .i64 z ∧ Hid (WyR w3 k l d x z v13 wr)) (fun v2 _ _ => (PD.g d (intOf v2).toNat).toNat)
      case atStart => exact ⟨x, rfl, HW0⟩
      case round =>
        obtain ⟨z, rfl, hW⟩ := hrel
        obtain ⟨vo, hvo⟩ : ∃ t, t = u13 := ⟨_, rfl⟩
        subst hvo
        clear HW0 cx fx
        have hzk := hW.out.y.1
        have hz0 := hW.out.y.2
        by_cases hzy : z = y
        · subst hzy
          obtain ⟨out, h1, h2, h3⟩ := hW.out.all
          obtain ⟨A13, c13, rfl, _⟩ := own_slice3 h2
          have HP : Hid (ShPost w k l x z (.returned (.tuple #[.slice A13 out.length c13, .nilIface])) wr) :=
            ⟨Ext.trans HX3.out hW.out.ext, .inr ⟨k, x, z, d, H0.out, rfl, rfl, rfl, HD.out, .inr ⟨by rw [HDX.out]; omega, A13, c13, out, rfl, h1.stop HD.out.zero, h2, by omega⟩⟩⟩
          clear h1 h2 h3 hW
          go_wp2
          go_ret2
          exact HP.out
        · have hpos : 0 < PD.g d z := by
            by_cases e : PD.g d z = 0
            · exact absurd (HD.out.src z hzk e) hzy
            · omega
          have HPOS := Lib.hid hpos
          have hne : ((z : Int) == (y : Int)) = false := by simpa using (show ¬ (z : Int) = (y : Int) by omega)
          have hne2 : ¬ (z : Int) = (y : Int) := by omega
          obtain ⟨NA, nc, g1, g2, g3⟩ := HB3.out.row z hzk
          have g1 := (hW.out.ext.cell (p := ⟨G, z, none⟩) HB3.out.lt).trans g1
          have HNA := Lib.hid g2
          obtain ⟨nl, hnl⟩ : ∃ t, t = (N z).length := ⟨_, rfl⟩
          have hnl4 : nl ≤ 400 := by omega
          rw [← hnl] at g1
          have HNL := Lib.hid hnl
          have hzk' : (z : Int) < (k : Int) := by omega
          clear g2 g3 hnl hpos hz0
          go_wp2
          have HI0 : Hid (WyR w3 k l d x z vo wr ∧ ∀ j t, j < 0 → (N z)[j]? = some t → PD.g d t ≠ PD.g d z - 1) := ⟨hW.out, fun j t hj => by omega⟩
          obtain ⟨wq, hwq⟩ : ∃ t, t = wr := ⟨_, rfl⟩
          subst hwq
          clear hW g1
          go_loopw [2, 13, 47] (fun v2 v13 v47 wr => ∃ i : Nat, i ≤ nl ∧ v2 = .int .i64 z ∧ vo = v13 ∧ v47 = .int .i64 i ∧ Hid (WyR w3 k l d x z vo wr ∧ ∀ j t, j < i → (N z)[j]? = some t → PD.g d t ≠ PD.g d z - 1)) (fun _ _ v47 _ => nl - (intOf v47).toNat)
          case atStart => exact ⟨0, by omega, rfl, rfl, rfl, HI0.out⟩
          case round =>
            obtain ⟨i, hi, rfl, rfl, rfl, hI⟩ := hrel
            clear HI0
            by_cases hin : i < nl
            · have hin' : (i : Int) < (nl : Int) := by omega
              have hi0 : (0 : Int) ≤ (i : Int) := by omega
              obtain ⟨b, hb⟩ : ∃ b, (N z)[i]? = some b := ⟨_, List.getElem?_eq_getElem (by rw [← HNL.out]; exact hin)⟩
              have hbm : b ∈ N z := List.mem_of_getElem? hb
              obtain ⟨hbn, hadj⟩ := (HN.out z hzk b).1 hbm
              have HW := Lib.hid hI.out.1
              obtain ⟨nb, no, rfl, b0⟩ : ∃ nb no, NA = some ⟨nb, no, none⟩ ∧ wr.cell? ⟨nb, no + i, none⟩ = some (.int .i64 (b : Int)) := by
                rcases HNA.out.ext HW.out.ext with h | ⟨nb, no, h, hlt, hc⟩
                · have := congrArg List.length h
                  simp at this
                  rw [this] at hb; simp at hb
                · exact ⟨nb, no, h, hc i b (by simp [hb])⟩
              obtain ⟨cb, _⟩ := (HR.out.moved HW.out.ext).cell HD.out.len hbn
              obtain ⟨cz, _⟩ := (HR.out.moved HW.out.ext).cell HD.out.len hzk
              have hbk : (b : Int) < (k : Int) := by omega
              obtain ⟨db, hdb⟩ : ∃ t, PD.g d b = t := ⟨_, rfl⟩
              obtain ⟨dz, hdz⟩ : ∃ t, PD.g d z = t := ⟨_, rfl⟩
              rw [hdb] at cb
              rw [hdz] at cz
              have hdz1 : 0 < dz := by rw [← hdz]; exact HPOS.out
              have hdz2 : dz ≤ 60 := by rw [← hdz]; have := HD.out.toBase.below hzk; omega
              have HDB := Lib.hid hdb
              have HDZ := Lib.hid hdz
              have HBB := Lib.hid hb
              have HNO := Lib.hid hI.out.2
              clear hI hb hbm hadj hdb hdz
              by_cases hE : db = dz - 1
              · have HNX : Hid (PD.Next k l d z b) := next_at (HN.out z hzk) (HS.out z hzk) HBB.out (by rw [HDB.out, HDZ.out]; exact hE) HNO.out
                subst hE
                obtain ⟨out, h1, h2, h3⟩ := HW.out.all
                have HO := Lib.hid h2
                have HON := Lib.hid h1
                have hol : out.length ≤ 100 := by omega
                have HOL := Lib.hid h3
                have HWO := Lib.hid HW.out.own
                have HWX := Lib.hid HW.out.ext
                clear h1 h2 h3 HW HNO
                go_wp2
                go_quiet (fail)
                have HWX2 : Hid (Ext w3 (wr.drewN nq)) := Ext.trans HWX.out (Ext.drewN _ _)
                have HO2 : Hid ((wr.drewN nq).ownsRow 0 3 1 vo out.length (natsV out)) := HO.out
                generalize wr.drewN nq = w5 at HWX2 HO2 ⊢
                have HO3 : Hid ((w5.alloc (.cells #[.int .i64 (b : Int)] 3)).ownsRow 0 3 1 vo out.length (natsV out)) := own_chg HO2.out (Chg.of_below (Ext.alloc w5 _)) (fun j hj => by have := own_lt HO2.out hj; omega)
                have HX6 : Hid (Ext w3 (w5.alloc (.cells #[.int .i64 (b : Int)] 3))) := Ext.trans HWX2.out (Ext.alloc _ _)
                clear HO cb cz b0
                go_wp2_with (at_builtin; refine wpList_push _ rfl (.tmp 62) (.tmp 64) 39 rfl 3 (.int .i64 0) 8 Tryz.underlying39 infoI rfl vo out.length (natsV out) rfl HO3.out ⟨by omega, by omega⟩ (.int .i64 (b : Int)) w5.heap.size rfl (cell_new1 rfl _ _) rfl ?_; intro g2 c2 w6 ho hc hat _; have HW6 := Lib.hid (WyR.push HON.out HOL.out HWO.out HX6.out HPOS.out HNX.out ho hc hat); clear ho hc hat)
                go_roundw
                case rel => exact ⟨b, rfl, HW6⟩
                case measure => simp [intOf, HDB.out, HDZ.out]; omega
              · have hE2 : (db == dz - 1) = false := by simpa using hE
                have HN2 : Hid (∀ j t, j < i + 1 → (N z)[j]? = some t → PD.g d t ≠ PD.g d z - 1) := fun j t hj ht => by
                  by_cases e : j = i
                  · subst e; rw [HBB.out] at ht; injection ht with ht; subst ht; rw [HDB.out, HDZ.out]; exact hE
                  · exact HNO.out j t (by omega) ht
                go_wp2
                go_quiet (fail)
                have HN3 : Hid (WyR w3 k l d x z vo (wr.drewN nq) ∧ ∀ j t, j < i + 1 → (N z)[j]? = some t → PD.g d t ≠ PD.g d z - 1) := ⟨HW.out.moved (Ext.drewN _ _), HN2.out⟩
                clear HN2 HW HNO
                go_wp2
                go_roundw
                case rel => exact ⟨i + 1, by omega, rfl, rfl, by go_num, HN3.out⟩
                case measure => simp [intOf]; omega
            · exfalso
              obtain ⟨cc, h1, h2, h3⟩ := HD.out.next hzk HPOS.out
              obtain ⟨j, hj⟩ := List.getElem?_of_mem ((HN.out z hzk cc).2 ⟨h1, h2⟩)
              exact hI.out.2 j cc (by have := (List.getElem?_eq_some_iff.1 hj).1; have := HNL.out; omega) hj h3
  · rw [errOf_ne h0]
    have HP : Hid (ShPost w n l a b (.returned (.tuple #[.slice none 0 0, .iface 66 (.int .i64 (ckF n l [a, b]))])) w1) :=
      ⟨HX1.out, .inl ⟨h0, by rw [errOf_ne h0]⟩⟩
    go_wp2
    go_ret2
    exact HP.out
end Go.Proofs.YtckcbfnffmohgaaGreat
namespace Go.Proofs.YtckcbfnffmohgaaGreat
open Go Go.RowKit
set_option linter.unusedVariables false

theorem natsV_ints {w : World} {A : Option Addr} {c : Nat} {p : List Nat} (h : w.ownsRow 0 3 1 (.slice A p.length c) p.length (natsV p)) : IntsAt w A (p.map fun (x : Nat) => (x : Int)) := by
  have : natsV p = (p.map fun (x : Nat) => (x : Int)).map (Value.int .i64) := by simp [natsV]
  rw [this] at h
  exact (IntsAt.of_own h).1
theorem ckF_ok {n : Int} {l : List AK.Ed} {xs : List Int} (h : (edgF n l).2 = 0) (hb : xs.any (badN n) = false) : ckF n l xs = 0 := by unfold ckF; rw [if_neg (by simpa using h), if_neg (by rw [hb]; simp)]
theorem ShPost.ok {w w' : World} {k x y : Nat} {l : List AK.Ed} {e : Ending} (h : ShPost w k l x y e w') (hx : ckF k l [(x : Int), (y : Int)] = 0) : Ext w w' ∧ ∃ d, PD.IsDist k l y d ∧
      ((PD.g d x < 0 ∧ e = .returned (.tuple #[.slice none 0 0, errOf 4])) ∨
       (0 ≤ PD.g d x ∧ ∃ A c p, e = .returned (.tuple #[.slice A p.length c, .nilIface]) ∧ PD.Way k l d x p ∧ w'.ownsRow 0 3 1 (.slice A p.length c) p.length (natsV p) ∧ p.length ≤ 100)) := by
  obtain ⟨h1, ⟨h2, _⟩ | ⟨k', x', y', d, h2, h3, h4, h5, h6, h7⟩⟩ := h
  · exact absurd hx h2
  · have e1 : k' = k := by omega
    have e2 : x' = x := by omega
    have e3 : y' = y := by omega
    subst e1; subst e2; subst e3; exact ⟨h1, d, h6, h7⟩
end Go.Proofs.YtckcbfnffmohgaaGreat
namespace Go.Proofs.YtckcbfnffmohgaaGreat
open Go Go.RowKit
set_option linter.unusedVariables false

theorem eds_take {w : World} {A : Option Addr} {l : List AK.Ed} (h : EdsAt w A l) (i : Nat) : EdsAt w A (l.take i) := by
  rcases h with h | ⟨b, off, rfl, hb, hc⟩
  · exact .inl (by rw [h]; simp)
  · refine .inr ⟨b, off, rfl, hb, fun j x hx => ?_⟩
    rw [List.getElem?_take] at hx
    split at hx
    · exact hc j x hx
    · simp at hx
theorem edgF_take {n : Int} {l : List AK.Ed} (h : (edgF n l).2 = 0) (i : Nat) : (edgF n (l.take i)).2 = 0 := by
  obtain ⟨h1, h2, h3, h4, h5⟩ := edgF_iff.1 h
  exact edgF_iff.2 ⟨h1, h2, by rw [List.length_take]; omega, fun x hx => h4 x (List.mem_of_mem_take hx), h5.sublist (List.take_sublist _ _)⟩
theorem ckF_nil {n : Int} {l : List AK.Ed} : ckF n l [] = (edgF n l).2 := by
  unfold ckF
  by_cases h : (edgF n l).2 = 0
  · rw [if_neg (by simpa using h)]; simp [h]
  · rw [if_pos h]
theorem fst3 {w w' : World} {P Q : Prop} (h : Ext w w' ∧ P ∧ Q) : Ext w w' := h.1
def RingPost (w : World) (n : Int) (l : List AK.Ed) (e : Ending) (w' : World) : Prop := Ext w w' ∧ (((edgF n l).2 ≠ 0 ∧ e = .returned (.tuple #[.slice none 0 0, errOf (edgF n l).2])) ∨
  ((edgF n l).2 = 0 ∧ ((DF.Wood l ∧ e = .returned (.tuple #[.slice none 0 0, .iface 66 (.int .i64 4)])) ∨
    ∃ (k : Nat) (A : Option Addr) (c : Nat) (p : List Nat), n = (k : Int) ∧ e = .returned (.tuple #[.slice A p.length c, .nilIface]) ∧ IntsAt w' A (p.map fun (x : Nat) => (x : Int)) ∧ p.length ≤ c ∧ c ≤ maxLen ∧ DF.RingOf k l p)))
set_option maxHeartbeats 4000000 in
set_option maxRecDepth 100000 in
theorem ring_any (w : World) (n : Int) (A : Option Addr) (m c : Nat) (l : List AK.Ed) (hl : l.length = m) (hmc : m ≤ c) (hcm : c ≤ 9223372036854775807) (h : EdsAt w A l) :
    Calls Tryz.prog 14 #[.int .i64 n, .slice A m c] w (RingPost w n l) := by
  have H := Lib.hid h
  have HL := Lib.hid hl
  have hlm : m ≤ 9223372036854775807 := by omega
  clear h hl
  go_enter Tryz.func14, Tryz.ntmps14
  go_wp2_with fail
  refine (checked_any w n A m c l HL.out hlm H.out none 0 0 [] (.inl rfl) rfl (by omega)).mono ?_
  rintro e w1 ⟨rfl, hx1⟩
  have HX1 : Hid (Ext w w1) := hx1
  rw [ckF_nil]
  clear hx1
  by_cases h0 : (edgF n l).2 = 0
  · obtain ⟨k, rfl, hk0, hk60, hf⟩ := fine_ok h0
    have HF := Lib.hid hf
    have H0 := Lib.hid h0
    obtain ⟨_, _, hl200, hok, hpw⟩ := edgF_iff.1 h0
    have HOK := Lib.hid hok
    have hm200 : m ≤ 200 := by have := HL.out; omega
    rw [h0, errOf_z]
    clear hf h0 hl200 hok hpw
    go_wp2
    go_loopw [19] (fun v wr => ∃ i : Nat, i ≤ m ∧ v = .int .i64 i ∧ Hid (Ext w wr ∧ ∀ (j u v : Nat), j < i → l[j]? = some ((u : Int), (v : Int)) → ¬ DF.Cn (PD.adj (l.take j)) u v)) (fun v _ => m - (intOf v).toNat)
    case atStart => exact ⟨0, Nat.zero_le _, rfl, HX1.out, fun j u v hj => absurd hj (Nat.not_lt_zero _)⟩
    case round =>
      obtain ⟨i, hi, rfl, hR⟩ := hrel
      by_cases hlt : i < m
      · have hi0 : (0 : Int) ≤ (i : Int) := by omega
        have hi1 : (i : Int) < (m : Int) := by omega
        have hic : (i : Int) ≤ (c : Int) := by omega
        obtain ⟨bs, off, hA, hbs, u, v, hx, huv, hvk, e1, e2⟩ := edge_at (H.out.ext hR.out.1) HL.out HF.out hlt
        have huk : u < k := by omega
        have HCK : Hid (ckF (k : Int) (l.take i) [(u : Int), (v : Int)] = 0) := ckF_ok (edgF_take H0.out i) (by simp [badN]; omega)
        have hin : ∀ p q, PD.adj (l.take i) p q → q < k := fun p q e => fine_in HF.out _ _ (DF.adj_take e)
        have HDC : Hid (∀ d, PD.IsDist k (l.take i) v d → (0 ≤ PD.g d u ↔ DF.Cn (PD.adj (l.take i)) u v)) := fun d hd => by
          rw [DF.dist_cn hd hin huk]
          exact ⟨fun c => .symm c, fun c => .symm c⟩
        have HT : Hid ((l.take i).length = i) := by rw [Hid, List.length_take]; have := HL.out; omega
        have HX := Lib.hid hx
        have HR := Lib.hid hR.out
        have HE : Hid (∀ w', Ext wr w' → EdsAt w' A (l.take i)) := fun w' hw => eds_take (H.out.ext (Ext.trans HR.out.1 hw)) i
        have HSH : Hid (∀ w', Ext wr w' → Calls Tryz.prog 38 #[.int .i64 (k : Int), .slice A i c, .int .i64 (u : Int), .int .i64 (v : Int)] w' (ShPost w' k (l.take i) u v)) := fun w' hw => short_any w' k A i c (l.take i) HT.out (by omega) (HE.out w' hw) u v
        obtain ⟨w5, hw5⟩ : ∃ w5, wr.alloc (.cells #[.int .i64 (u : Int), .int .i64 (v : Int)] 32) = w5 := ⟨_, rfl⟩
        have hb5 : Blk w5 wr.heap.size 32 #[.int .i64 (u : Int), .int .i64 (v : Int)] := by rw [← hw5]; exact Blk.new _ _ _
        have hx5 : Ext wr w5 := by rw [← hw5]; exact Ext.alloc _ _
        have HB5 := Lib.hid hb5
        have HX5 := Lib.hid hx5
        subst hA
        rw [HT.out] at *
        clear hR hx hin hb5 hx5
        have hcap : i ≤ c := by omega
        have HSN : Hid (¬ DF.Cn (PD.adj (l.take i)) u v → ∀ w', Ext wr w' → Calls Tryz.prog 38 #[.int .i64 (k : Int), .slice (some ⟨bs, off, none⟩) i c, .int .i64 (u : Int), .int .i64 (v : Int)] w' fun e w'' => e = .returned (.tuple #[.slice none 0 0, .iface 66 (.int .i64 4)]) ∧ Ext w' w'') := fun hn w' hw => by
          refine (HSH.out w' hw).mono ?_
          intro e w'' hp
          obtain ⟨hx', d, hd, h1⟩ := ShPost.ok hp HCK.out
          rcases h1 with ⟨_, rfl⟩ | ⟨h1, _⟩
          · exact ⟨by rw [errOf_n (by decide)], hx'⟩
          · exact absurd ((HDC.out d hd).1 h1) hn
        have HSY : Hid (DF.Cn (PD.adj (l.take i)) u v → ∀ w', Ext wr w' → Calls Tryz.prog 38 #[.int .i64 (k : Int), .slice (some ⟨bs, off, none⟩) i c, .int .i64 (u : Int), .int .i64 (v : Int)] w' fun e w'' => ∃ A7 c7 p n7, e = .returned (.tuple #[.slice A7 n7 c7, .nilIface]) ∧ Ext w' w'' ∧ Hid (p.length = n7 ∧ IntsAt w'' A7 ((p : List Nat).map fun (x : Nat) => (x : Int)) ∧ n7 ≤ c7 ∧ c7 ≤ maxLen ∧ DF.RingOf k l p)) := fun hn w' hw => by
          refine (HSH.out w' hw).mono ?_
          intro e w'' hp
          obtain ⟨hx', d, hd, h1⟩ := ShPost.ok hp HCK.out
          rcases h1 with ⟨h1, _⟩ | ⟨h1, A7, c7, p7, rfl, hw7, ho7, _⟩
          · have := (HDC.out d hd).2 hn; omega
          · refine ⟨A7, c7, p7, _, rfl, hx', rfl, natsV_ints ho7, ?_, own_capmax ho7, ⟨i, u, v, d, HX.out, huk, hvk, hd, h1, hw7⟩⟩
            obtain ⟨A8, c8, he, hc8⟩ := own_slice3 ho7
            simp only [Value.slice.injEq] at he
            obtain ⟨_, _, rfl⟩ := he
            exact hc8
        have HC5 : Hid (∀ w', Ext w5 w' → Ext w5 w' ∧ w'.cell? ⟨wr.heap.size, 0, none⟩ = some (.int .i64 (u : Int)) ∧ w'.cell? ⟨wr.heap.size, 1, none⟩ = some (.int .i64 (v : Int))) := fun w' hw => by
          have hb := HB5.out.chg (Chg.of_below hw) (by have := HB5.out.lt; omega)
          exact ⟨hw, hb.cell 0, hb.cell 1⟩
        obtain ⟨_, s1, s2⟩ := HC5.out w5 (Ext.refl _)
        go_wp2
        by_cases hgo : DF.Cn (PD.adj (l.take i)) u v
        · have HS := Lib.hid (HSY.out hgo)
          clear hgo HSN HSY HSH hw5 e1 e2
          go_region_held3 (fun w' => Ext w5 w' ∧ w'.cell? ⟨wr.heap.size, 0, none⟩ = some (.int .i64 (u : Int)) ∧ w'.cell? ⟨wr.heap.size, 1, none⟩ = some (.int .i64 (v : Int)))
            (exact HC5.out _ (by first | exact Ext.drew _ | exact fst3 (by assumption) | exact Ext.trans (fst3 (by assumption)) (by assumption)))
            (first
              | (go_at_call 38; refine (HS.out _ (Ext.trans HX5.out (fst3 (by assumption)))).mono ?_; rintro e w7 ⟨A7, c7, p7, n7, rfl, hb7, hq7⟩))
          rename_i hHeld
          have HP : Hid (RingPost w k l (.returned (.tuple #[.slice A7 n7 c7, .nilIface])) w7) := by
            obtain ⟨rfl, z2, z3, z4, z5⟩ := hq7.out
            exact ⟨Ext.trans HR.out.1 (Ext.trans HX5.out (fst3 hHeld)), .inr ⟨H0.out, .inr ⟨k, A7, c7, p7, rfl, rfl, z2, z3, z4, z5⟩⟩⟩
          clear hHeld hb7 hq7 HC5 s1 s2
          go_wp2
          go_ret2
          exact HP.out
        · have HS := Lib.hid (HSN.out hgo)
          have HGO := Lib.hid hgo
          clear hgo HSN HSY HSH hw5 e1 e2
          go_region_held3 (fun w' => Ext w5 w' ∧ w'.cell? ⟨wr.heap.size, 0, none⟩ = some (.int .i64 (u : Int)) ∧ w'.cell? ⟨wr.heap.size, 1, none⟩ = some (.int .i64 (v : Int)))
            (exact HC5.out _ (by first | exact Ext.drew _ | exact fst3 (by assumption) | exact Ext.trans (fst3 (by assumption)) (by assumption)))
            (first
              | (go_at_call 38; refine (HS.out _ (Ext.trans HX5.out (fst3 (by assumption)))).mono ?_; rintro e w7 ⟨rfl, hb7⟩))
          rename_i hHeld
          have HN : Hid (Ext w w7 ∧ ∀ (j u v : Nat), j < i + 1 → l[j]? = some ((u : Int), (v : Int)) → ¬ DF.Cn (PD.adj (l.take j)) u v) := by
            refine ⟨Ext.trans HR.out.1 (Ext.trans HX5.out (fst3 hHeld)), fun j u' v' hj hx => ?_⟩
            by_cases e : j = i
            · subst e
              have := HX.out
              rw [hx] at this
              injection this with this
              injection this with h1 h2
              have h1 : u' = u := by omega
              have h2 : v' = v := by omega
              subst h1; subst h2
              exact HGO.out
            · exact HR.out.2 j u' v' (by omega) hx
          clear hHeld hb7 HC5 s1 s2
          go_wp2
          go_roundw
          case rel => exact ⟨i + 1, by omega, by go_num, HN.out⟩
          case measure => simp [intOf]; omega
      · obtain rfl : m = i := by omega
        have HP : Hid (RingPost w k l (.returned (.tuple #[.slice none 0 0, .iface 66 (.int .i64 4)])) wr) :=
          ⟨hR.out.1, .inr ⟨H0.out, .inl ⟨fun j u v hx => hR.out.2 j u v (by have := (List.getElem?_eq_some_iff.1 hx).1; have := HL.out; omega) hx, rfl⟩⟩⟩
        clear hR
        go_wp2
        go_ret2
        exact HP.out
  · have HP : Hid (RingPost w n l (.returned (.tuple #[.slice none 0 0, errOf (edgF n l).2])) w1) := ⟨HX1.out, .inl ⟨h0, rfl⟩⟩
    rw [errOf_n h0] at HP ⊢
    clear h0
    go_wp2
    go_ret2
    exact HP.out
end Go.Proofs.YtckcbfnffmohgaaGreat

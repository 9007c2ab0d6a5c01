/-
  Walk of the references' ShortOf. Conditions: the edges lie in memory as 'EdsAt' says, their nodes are nodes.
-/
import Derived.Test.YtenjblonepegfaaDoorPc3
import Derived.Deep.RegionHeld3
namespace Go.Proofs.YtenjblonepegfaaDoor
open Go Go.RowKit
set_option linter.unusedVariables false

theorem adj_ek {n : Nat} {l : List AK.Ed} {u v : Nat} (hf : Fine n l) : PD.adj l u v ↔ AK.ek u v ∈ l := by
  unfold PD.adj AK.ek
  constructor
  · rintro (h | h)
    · obtain ⟨i, hi⟩ := List.getElem?_of_mem h
      have := hf.2 i _ hi
      simp only at this
      rw [show min (u : Int) (v : Int) = u by omega, show max (u : Int) (v : Int) = v by omega]; exact h
    · obtain ⟨i, hi⟩ := List.getElem?_of_mem h
      have := hf.2 i _ hi
      simp only at this
      rw [show min (u : Int) (v : Int) = v by omega, show max (u : Int) (v : Int) = u by omega]; exact h
  · intro h
    by_cases hle : u ≤ v
    · rw [show min (u : Int) (v : Int) = u by omega, show max (u : Int) (v : Int) = v by omega] at h; exact .inl h
    · rw [show min (u : Int) (v : Int) = v by omega, show max (u : Int) (v : Int) = u by omega] at h; exact .inr h
theorem placeV_pos {l : List AK.Ed} {x : AK.Ed} : decide (0 ≤ RF.placeV (RF.place l x)) = decide (x ∈ l) := by
  cases h : RF.place l x with
  | none => have := RF.place_mem.1 h; simp [RF.placeV, this]
  | some i => have := List.mem_of_getElem? (RF.place_get h); simp [RF.placeV, this]
def Cand (l : List AK.Ed) (d : List Int) (z c : Nat) : Prop := PD.adj l z c ∧ PD.g d c = PD.g d z - 1
/-- The least of those from j on, as yet. -/
def Least (n : Nat) (l : List AK.Ed) (d : List Int) (z j : Nat) (nx : Int) : Prop := (nx = -1 ∧ ∀ c, j ≤ c → c < n → ¬ Cand l d z c) ∨ ∃ c0 : Nat, nx = (c0 : Int) ∧ j ≤ c0 ∧ c0 < n ∧ Cand l d z c0 ∧ ∀ c, j ≤ c → c < c0 → ¬ Cand l d z c
theorem Least.skip {n : Nat} {l : List AK.Ed} {d : List Int} {z c : Nat} {nx : Int} (h : Least n l d z (c + 1) nx) (hc : ¬ Cand l d z c) : Least n l d z c nx := by
  rcases h with ⟨h1, h2⟩ | ⟨c0, h1, h2, h3, h4, h5⟩
  · exact .inl ⟨h1, fun c' h h' => by
      by_cases e : c' = c
      · subst e; exact hc
      · exact h2 c' (by omega) h'⟩
  · exact .inr ⟨c0, h1, by omega, h3, h4, fun c' h h' => by
      by_cases e : c' = c
      · subst e; exact hc
      · exact h5 c' (by omega) h'⟩
theorem Least.take {n : Nat} {l : List AK.Ed} {d : List Int} {z c : Nat} (hn : c < n) (hc : Cand l d z c) : Least n l d z c (c : Int) := .inr ⟨c, rfl, Nat.le_refl _, hn, hc, fun c' h h' => by omega⟩
theorem Least.done {n a : Nat} {l : List AK.Ed} {d : List Int} {z : Nat} {nx : Int} (h : Least n l d z 0 nx) (hd : PD.IsDist n l a d) (hz : z < n) (h0 : 0 < PD.g d z) : ∃ c : Nat, nx = (c : Int) ∧ PD.Next n l d z c := by
  rcases h with ⟨h1, h2⟩ | ⟨c0, h1, h2, h3, h4, h5⟩
  · obtain ⟨c, q1, q2, q3⟩ := hd.next hz h0
    exact absurd ⟨q2, q3⟩ (h2 c (Nat.zero_le _) q1)
  · exact ⟨c0, h1, h3, h4.1, h4.2, fun c' h' hadj he => h5 c' (Nat.zero_le _) h' ⟨hadj, he⟩⟩
/-- What ShortOf leaves. -/
def SoPost (w : World) (k : Nat) (l : List AK.Ed) (x y : Nat) (e : Ending) (w' : World) : Prop :=
  Ext w w' ∧ ∃ d, PD.IsDist k l y d ∧ ((PD.g d x < 0 ∧ e = .returned (.tuple #[.slice none 0 0, .bool false])) ∨
    (0 ≤ PD.g d x ∧ ∃ A c p, e = .returned (.tuple #[.slice A p.length c, .bool true]) ∧ PD.Way k l d x p ∧ w'.ownsRow 0 3 1 (.slice A p.length c) p.length (natsV p) ∧ p.length ≤ 100))
set_option maxHeartbeats 2000000 in
set_option maxRecDepth 100000 in
theorem shortof_any (w : World) (k x y : Nat) (A : Option Addr) (m c : Nat) (l : List AK.Ed) (hl : l.length = m) (h : EdsAt w A l) (hf : Fine k l) (hxk : x < k) (hyk : y < k) (hk60 : k ≤ 60) :
    Calls Tryd.prog 49 #[.int .i64 k, .slice A m c, .int .i64 x, .int .i64 y] w (SoPost w k l x y) := by
  have H := Lib.hid h
  have HL := Lib.hid hl
  have HF := Lib.hid hf
  have hm2 : m ≤ 200 := by rw [← hl]; exact hf.1
  clear h hl hf
  go_enter Tryd.func49, Tryd.ntmps49
  go_wp2_with fail
  refine (farof_any w k y A m c l HL.out H.out HF.out hyk hk60).mono ?_
  rintro e w3 ⟨gd, cd, d, rfl, hd, hr⟩
  have HX3 : Hid (Ext w w3) := hr.ext
  have HD := Lib.hid hd
  have HR := Lib.hid hr
  obtain ⟨cx, fx⟩ := hr.cell hd.len hxk
  have hxk' : (x : Int) < (k : Int) := by omega
  clear hd hr
  obtain ⟨dx, hdx⟩ : ∃ z, PD.g d x = z := ⟨_, rfl⟩
  rw [hdx] at cx
  have HDX := Lib.hid hdx
  clear hdx
  by_cases hneg : dx < 0
  · have HP : Hid (SoPost w k l x y (.returned (.tuple #[.slice none 0 0, .bool false])) w3) := ⟨HX3.out, d, HD.out, .inl ⟨by rw [HDX.out]; exact hneg, rfl⟩⟩
    go_wp2
    go_ret2
    exact HP.out
  · have HW0 : Hid (WyR w3 k l d x x (.slice (some ⟨w3.heap.size, 0, none⟩) 1 1) (w3.alloc (.cells #[.int .i64 (x : Int)] 3))) := by
      refine ⟨⟨[x], PD.On.start k l d x, by simpa [natsV] using World.ownsRow_lit w3 #[.int .i64 (x : Int)] (e := 3) (size := 1) (base := 0) 1 (Nat.zero_le _) (by unfold maxLen; omega) rfl, ?_⟩, fun j hj => by simp [Value.ownBlock] at hj; omega, Ext.alloc _ _, hxk, by rw [HDX.out]; omega⟩
      have := HD.out.toBase.below hxk
      simp; omega
    go_wp2
    go_loopw [2, 11] (fun v2 v11 wr => ∃ z : Nat, v2 = .int .i64 z ∧ Hid (WyR w3 k l d x z v11 wr)) (fun v2 _ _ => (PD.g d (intOf v2).toNat).toNat)
    case atStart => exact ⟨x, rfl, HW0⟩
    case round =>
      obtain ⟨z, rfl, hW⟩ := hrel
      obtain ⟨vo, hvo⟩ : ∃ t, t = u11 := ⟨_, rfl⟩
      subst hvo
      clear HW0 cx fx
      have hzk := hW.out.y.1
      have hz0 := hW.out.y.2
      have hzk' : (z : Int) < (k : Int) := by omega
      obtain ⟨cz, _⟩ := (HR.out.moved hW.out.ext).cell HD.out.len hzk
      obtain ⟨dz, hdz⟩ : ∃ t, PD.g d z = t := ⟨_, rfl⟩
      rw [hdz] at cz
      have hdz2 : dz ≤ 60 := by rw [← hdz]; have := HD.out.toBase.below hzk; omega
      have HDZ := Lib.hid hdz
      by_cases hpos : 0 < dz
      · have HPOS : Hid (0 < PD.g d z) := by rw [Hid, hdz]; exact hpos
        clear hdz hz0
        have HI0 : Hid (WyR w3 k l d x z vo wr ∧ Least k l d z k (-1)) := ⟨hW.out, .inl ⟨rfl, fun c h h' => by omega⟩⟩
        go_wp2
        clear cz
        obtain ⟨wq, hwq⟩ : ∃ t, t = wr := ⟨_, rfl⟩
        subst hwq
        clear hW
        go_loopw [12, 13] (fun v12 v13 wr => ∃ (j : Nat) (t nx : Int), j ≤ k ∧ t + 1 = (j : Int) ∧ v12 = .int .i64 nx ∧ v13 = .int .i64 t ∧ Hid (WyR w3 k l d x z vo wr ∧ Least k l d z j nx)) (fun _ v13 _ => (intOf v13 + 1).toNat)
        case atStart => exact ⟨k, _, _, Nat.le_refl _, by omega, rfl, rfl, HI0.out⟩
        case round =>
          obtain ⟨j, t, nx, hjk, htj, rfl, rfl, hI⟩ := hrel
          clear HI0
          by_cases hj0 : 0 ≤ t
          · obtain ⟨cc, rfl⟩ := Int.eq_ofNat_of_zero_le hj0
            have hjc : j = cc + 1 := by omega
            subst hjc
            clear htj
            have hck : cc < k := by omega
            have hck' : (cc : Int) < (k : Int) := by omega
            have hW := Lib.hid hI.out.1
            have HLE := Lib.hid hI.out.2
            obtain ⟨cz, _⟩ := (HR.out.moved hW.out.ext).cell HD.out.len hzk
            obtain ⟨cb, _⟩ := (HR.out.moved hW.out.ext).cell HD.out.len hck
            rw [HDZ.out] at cz
            obtain ⟨db, hdb⟩ : ∃ t, PD.g d cc = t := ⟨_, rfl⟩
            rw [hdb] at cb
            have HDB := Lib.hid hdb
            clear hI hdb
            by_cases hE : db = dz - 1
            · have hwd : IntKind.i64.wrap (dz - 1) = dz - 1 := IntWalk.i64_in _ (by omega)
              subst hE
              go_wp2
              have HED : Hid (EdsAt wr A l) := (H.out.ext HX3.out).ext hW.out.ext
              by_cases hA : AK.ek z cc ∈ l
              · have HPV : Hid (decide (0 ≤ RF.placeV (RF.place l (AK.ek z cc))) = true) := by rw [Hid, placeV_pos]; simpa using hA
                have HLN : Hid (Least k l d z cc (cc : Int)) := Least.take hck ⟨(adj_ek HF.out).2 hA, by rw [HDB.out, HDZ.out]⟩
                obtain ⟨pv, hpv⟩ : ∃ t, RF.placeV (RF.place l (AK.ek z cc)) = t := ⟨_, rfl⟩
                rw [hpv] at HPV
                have HPVV := Lib.hid hpv
                have hpv0 : (0 : Int) ≤ pv := by simpa using HPV.out
                have hpv1 := HPV.out
                clear hpv
                first
                  | (go_region_with ((go_at_call 51; refine (place_any wr.drew A m c l z cc HL.out (by omega) (HED.out.ext (Ext.drew _))).mono ?_; rintro e w5 ⟨rfl, hb5⟩; rw [HPVV.out]; have HE5 : Hid (Ext wr w5) := Ext.trans (Ext.drew wr) hb5; have hW5 := Lib.hid (hW.out.moved HE5.out); clear hb5)))
                  | fail
                all_goals
                  have HN3 : Hid (WyR w3 k l d x z vo w5 ∧ Least k l d z cc (cc : Int)) := ⟨hW5.out, HLN.out⟩
                  clear HLN hW HLE HPV HPVV hW5
                  go_wp2
                  go_roundw
                  case rel => exact ⟨cc, _, (cc : Int), by omega, by omega, rfl, rfl, HN3.out⟩
                  case measure => simp [intOf] <;> omega
              · have HPV : Hid (decide (0 ≤ RF.placeV (RF.place l (AK.ek z cc))) = false) := by rw [Hid, placeV_pos]; simpa using hA
                have HLN : Hid (Least k l d z cc nx) := HLE.out.skip (fun hc => hA ((adj_ek HF.out).1 hc.1))
                obtain ⟨pv, hpv⟩ : ∃ t, RF.placeV (RF.place l (AK.ek z cc)) = t := ⟨_, rfl⟩
                rw [hpv] at HPV
                have HPVV := Lib.hid hpv
                have hpv0 : ¬ (0 : Int) ≤ pv := by simpa using HPV.out
                have hpv1 := HPV.out
                clear hpv
                first
                  | (go_region_with ((go_at_call 51; refine (place_any wr.drew A m c l z cc HL.out (by omega) (HED.out.ext (Ext.drew _))).mono ?_; rintro e w5 ⟨rfl, hb5⟩; rw [HPVV.out]; have HE5 : Hid (Ext wr w5) := Ext.trans (Ext.drew wr) hb5; have hW5 := Lib.hid (hW.out.moved HE5.out); clear hb5)))
                  | fail
                all_goals
                  have HN3 : Hid (WyR w3 k l d x z vo w5 ∧ Least k l d z cc nx) := ⟨hW5.out, HLN.out⟩
                  clear HLN hW HLE HPV HPVV hW5
                  go_wp2
                  go_roundw
                  case rel => exact ⟨cc, _, nx, by omega, by omega, rfl, rfl, HN3.out⟩
                  case measure => simp [intOf] <;> omega
            · have hE2 : (db == dz - 1) = false := by simpa using hE
              have HLN : Hid (Least k l d z cc nx) := HLE.out.skip (fun hc => by rw [Cand, HDB.out, HDZ.out] at hc; exact hE hc.2)
              go_wp2
              go_quiet (fail)
              have HN3 : Hid (WyR w3 k l d x z vo (wr.drewN nq) ∧ Least k l d z cc nx) := ⟨hW.out.moved (Ext.drewN _ _), HLN.out⟩
              clear HLN hW HLE
              go_wp2
              go_roundw
              case rel => exact ⟨cc, _, nx, by omega, by omega, rfl, rfl, HN3.out⟩
              case measure => simp [intOf] <;> omega
          · have hj : j = 0 := by omega
            have ht : t = -1 := by omega
            subst hj; subst ht
            obtain ⟨c0, hnx, hnext⟩ := hI.out.2.done HD.out hzk HPOS.out
            subst hnx
            have HNX := Lib.hid hnext
            obtain ⟨out, h1, h2, h3⟩ := hI.out.1.all
            have HO := Lib.hid h2
            have HON := Lib.hid h1
            have hol : out.length ≤ 100 := by omega
            have HOL := Lib.hid h3
            have HWO := Lib.hid hI.out.1.own
            have HWX := Lib.hid hI.out.1.ext
            clear h1 h2 h3 hI hnext
            have HO3 : Hid ((wr.alloc (.cells #[.int .i64 (c0 : Int)] 3)).ownsRow 0 3 1 vo out.length (natsV out)) := own_chg HO.out (Chg.of_below (Ext.alloc wr _)) (fun j hj => by have := own_lt HO.out hj; omega)
            have HX6 : Hid (Ext w3 (wr.alloc (.cells #[.int .i64 (c0 : Int)] 3))) := Ext.trans HWX.out (Ext.alloc _ _)
            have hv : PD.g d c0 = dz - 1 := by rw [← HDZ.out]; exact HNX.out.val
            have HVV := Lib.hid hv
            clear HO hv
            go_wp2_with (at_builtin; refine wpList_push _ rfl (.tmp 55) (.tmp 57) 34 rfl 3 (.int .i64 0) 8 Tryd.underlying34 infoI rfl vo out.length (natsV out) rfl HO3.out ⟨by omega, by omega⟩ (.int .i64 (c0 : Int)) wr.heap.size rfl (cell_new1 rfl _ _) rfl ?_; intro g2 c2 w6 ho hc hat _; have HW6 := Lib.hid (WyR.push HON.out HOL.out HWO.out HX6.out HPOS.out HNX.out ho hc hat); clear ho hc hat)
            go_roundw
            case rel => exact ⟨c0, rfl, HW6⟩
            case measure => simp [intOf, HVV.out, HDZ.out]; omega
      · have e0 : dz = 0 := by rw [← hdz] at hpos ⊢; omega
        have hzy : z = y := HD.out.src z hzk (by rw [hdz]; exact e0)
        obtain ⟨out, h1, h2, h3⟩ := hW.out.all
        obtain ⟨A11, c11, rfl, _⟩ := own_slice3 h2
        have HP : Hid (SoPost w k l x y (.returned (.tuple #[.slice A11 out.length c11, .bool true])) wr) :=
          ⟨Ext.trans HX3.out hW.out.ext, d, HD.out, .inr ⟨by rw [HDX.out]; omega, A11, c11, out, rfl, h1.stop (by rw [hdz]; exact e0), h2, by omega⟩⟩
        clear h1 h2 h3 hW hdz hz0 hzy
        subst e0
        have hp0 : ¬ (0 : Int) < 0 := by omega
        go_wp2
        go_ret2
        exact HP.out
end Go.Proofs.YtenjblonepegfaaDoor

/-
  Walk of path.Ring. Conditions: the edges lie in memory as 'EdsAt' says.
-/
import Derived.Test.YtakjakglkfhaaaaDoorRg1
import Derived.Test.YtakjakglkfhaaaaDoorPc5
import Derived.Deep.RegionHeld3
import Derived.Deep.RegionHeldLaw
namespace Go.Proofs.YtakjakglkfhaaaaDoor
open Go Go.RowKit
set_option linter.unusedVariables false

theorem eds_take {w : World} {A : Option Addr} {l : List AK.Ed} (h : EdsAt w A l) (i : Nat) : EdsAt w A (l.take i) := by
  rcases h with h | ⟨b, off, rfl, hb, hc⟩
  · exact .inl (by rw [h]; simp)
  · refine .inr ⟨b, off, rfl, hb, fun j x hx => ?_⟩
    rw [List.getElem?_take] at hx
    split at hx
    · exact hc j x hx
    · simp at hx
theorem edgF_take {n : Int} {l : List AK.Ed} (h : (edgF n l).2 = 0) (i : Nat) : (edgF n (l.take i)).2 = 0 := by
  obtain ⟨h1, h2, h3, h4, h5⟩ := edgF_iff.1 h
  exact edgF_iff.2 ⟨h1, h2, by rw [List.length_take]; omega, fun x hx => h4 x (List.mem_of_mem_take hx), h5.sublist (List.take_sublist _ _)⟩
theorem ckF_nil {n : Int} {l : List AK.Ed} : ckF n l [] = (edgF n l).2 := by
  unfold ckF
  by_cases h : (edgF n l).2 = 0
  · rw [if_neg (by simpa using h)]; simp [h]
  · rw [if_pos h]
theorem fst3 {w w' : World} {P Q : Prop} (h : Ext w w' ∧ P ∧ Q) : Ext w w' := h.1
def RingPost (w : World) (n : Int) (l : List AK.Ed) (e : Ending) (w' : World) : Prop := Ext w w' ∧ (((edgF n l).2 ≠ 0 ∧ e = .returned (.tuple #[.slice none 0 0, errOf (edgF n l).2])) ∨
  ((edgF n l).2 = 0 ∧ ((DF.Wood l ∧ e = .returned (.tuple #[.slice none 0 0, .iface 26 (.int .i64 4)])) ∨
    ∃ (k : Nat) (A : Option Addr) (c : Nat) (p : List Nat), n = (k : Int) ∧ e = .returned (.tuple #[.slice A p.length c, .nilIface]) ∧ IntsAt w' A (p.map fun (x : Nat) => (x : Int)) ∧ p.length ≤ c ∧ c ≤ maxLen ∧ DF.RingOf k l p)))
set_option maxHeartbeats 4000000 in
set_option maxRecDepth 100000 in
theorem ring_any (w : World) (n : Int) (A : Option Addr) (m c : Nat) (l : List AK.Ed) (hl : l.length = m) (hmc : m ≤ c) (hcm : c ≤ 9223372036854775807) (h : EdsAt w A l) :
    Calls Tryd.prog 33 #[.int .i64 n, .slice A m c] w (RingPost w n l) := by
  have H := Lib.hid h
  have HL := Lib.hid hl
  have hlm : m ≤ 9223372036854775807 := by omega
  clear h hl
  go_enter Tryd.func33, Tryd.ntmps33
  go_wp2_with fail
  refine (checked_any w n A m c l HL.out hlm H.out none 0 0 [] (.inl rfl) rfl (by omega)).mono ?_
  rintro e w1 ⟨rfl, hx1⟩
  have HX1 : Hid (Ext w w1) := hx1
  rw [ckF_nil]
  clear hx1
  by_cases h0 : (edgF n l).2 = 0
  · obtain ⟨k, rfl, hk0, hk60, hf⟩ := fine_ok h0
    have HF := Lib.hid hf
    have H0 := Lib.hid h0
    obtain ⟨_, _, hl200, hok, hpw⟩ := edgF_iff.1 h0
    have HOK := Lib.hid hok
    have hm200 : m ≤ 200 := by have := HL.out; omega
    rw [h0, errOf_z]
    clear hf h0 hl200 hok hpw
    go_wp2
    go_loopw [19] (fun v wr => ∃ i : Nat, i ≤ m ∧ v = .int .i64 i ∧ Hid (Ext w wr ∧ ∀ (j u v : Nat), j < i → l[j]? = some ((u : Int), (v : Int)) → ¬ DF.Cn (PD.adj (l.take j)) u v)) (fun v _ => m - (intOf v).toNat)
    case atStart => exact ⟨0, Nat.zero_le _, rfl, HX1.out, fun j u v hj => absurd hj (Nat.not_lt_zero _)⟩
    case round =>
      obtain ⟨i, hi, rfl, hR⟩ := hrel
      by_cases hlt : i < m
      · have hi0 : (0 : Int) ≤ (i : Int) := by omega
        have hi1 : (i : Int) < (m : Int) := by omega
        have hic : (i : Int) ≤ (c : Int) := by omega
        obtain ⟨bs, off, hA, hbs, u, v, hx, huv, hvk, e1, e2⟩ := edge_at (H.out.ext hR.out.1) HL.out HF.out hlt
        have huk : u < k := by omega
        have HCK : Hid (ckF (k : Int) (l.take i) [(u : Int), (v : Int)] = 0) := ckF_ok (edgF_take H0.out i) (by simp [badN]; omega)
        have hin : ∀ p q, PD.adj (l.take i) p q → q < k := fun p q e => fine_in HF.out _ _ (DF.adj_take e)
        have HDC : Hid (∀ d, PD.IsDist k (l.take i) v d → (0 ≤ PD.g d u ↔ DF.Cn (PD.adj (l.take i)) u v)) := fun d hd => by
          rw [DF.dist_cn hd hin huk]
          exact ⟨fun c => .symm c, fun c => .symm c⟩
        have HT : Hid ((l.take i).length = i) := by rw [Hid, List.length_take]; have := HL.out; omega
        have HX := Lib.hid hx
        have HR := Lib.hid hR.out
        have HE : Hid (∀ w', Ext wr w' → EdsAt w' A (l.take i)) := fun w' hw => eds_take (H.out.ext (Ext.trans HR.out.1 hw)) i
        have HSH : Hid (∀ w', Ext wr w' → Calls Tryd.prog 30 #[.int .i64 (k : Int), .slice A i c, .int .i64 (u : Int), .int .i64 (v : Int)] w' (ShPost w' k (l.take i) u v)) := fun w' hw => short_any w' k A i c (l.take i) HT.out (by omega) (HE.out w' hw) u v
        obtain ⟨w5, hw5⟩ : ∃ w5, wr.alloc (.cells #[.int .i64 (u : Int), .int .i64 (v : Int)] 63) = w5 := ⟨_, rfl⟩
        have hb5 : Blk w5 wr.heap.size 63 #[.int .i64 (u : Int), .int .i64 (v : Int)] := by rw [← hw5]; exact Blk.new _ _ _
        have hx5 : Ext wr w5 := by rw [← hw5]; exact Ext.alloc _ _
        have HB5 := Lib.hid hb5
        have HX5 := Lib.hid hx5
        subst hA
        rw [HT.out] at *
        clear hR hx hin hb5 hx5
        have hcap : i ≤ c := by omega
        have HSN : Hid (¬ DF.Cn (PD.adj (l.take i)) u v → ∀ w', Ext wr w' → Calls Tryd.prog 30 #[.int .i64 (k : Int), .slice (some ⟨bs, off, none⟩) i c, .int .i64 (u : Int), .int .i64 (v : Int)] w' fun e w'' => e = .returned (.tuple #[.slice none 0 0, .iface 26 (.int .i64 4)]) ∧ Ext w' w'') := fun hn w' hw => by
          refine (HSH.out w' hw).mono ?_
          intro e w'' hp
          obtain ⟨hx', d, hd, h1⟩ := ShPost.ok hp HCK.out
          rcases h1 with ⟨_, rfl⟩ | ⟨h1, _⟩
          · exact ⟨by rw [errOf_n (by decide)], hx'⟩
          · exact absurd ((HDC.out d hd).1 h1) hn
        have HSY : Hid (DF.Cn (PD.adj (l.take i)) u v → ∀ w', Ext wr w' → Calls Tryd.prog 30 #[.int .i64 (k : Int), .slice (some ⟨bs, off, none⟩) i c, .int .i64 (u : Int), .int .i64 (v : Int)] w' fun e w'' => ∃ A7 c7 p n7, e = .returned (.tuple #[.slice A7 n7 c7, .nilIface]) ∧ Ext w' w'' ∧ Hid (p.length = n7 ∧ IntsAt w'' A7 ((p : List Nat).map fun (x : Nat) => (x : Int)) ∧ n7 ≤ c7 ∧ c7 ≤ maxLen ∧ DF.RingOf k l p)) := fun hn w' hw => by
          refine (HSH.out w' hw).mono ?_
          intro e w'' hp
          obtain ⟨hx', d, hd, h1⟩ := ShPost.ok hp HCK.out
          rcases h1 with ⟨h1, _⟩ | ⟨h1, A7, c7, p7, rfl, hw7, ho7, _⟩
          · have := (HDC.out d hd).2 hn; omega
          · refine ⟨A7, c7, p7, _, rfl, hx', rfl, natsV_ints ho7, ?_, own_capmax ho7, ⟨i, u, v, d, HX.out, huk, hvk, hd, h1, hw7⟩⟩
            obtain ⟨A8, c8, he, hc8⟩ := own_slice3 ho7
            simp only [Value.slice.injEq] at he
            obtain ⟨_, _, rfl⟩ := he
            exact hc8
        have HC5 : Hid (∀ w', Ext w5 w' → Ext w5 w' ∧ w'.cell? ⟨wr.heap.size, 0, none⟩ = some (.int .i64 (u : Int)) ∧ w'.cell? ⟨wr.heap.size, 1, none⟩ = some (.int .i64 (v : Int))) := fun w' hw => by
          have hb := HB5.out.chg (Chg.of_below hw) (by have := HB5.out.lt; omega)
          exact ⟨hw, hb.cell 0, hb.cell 1⟩
        obtain ⟨_, s1, s2⟩ := HC5.out w5 (Ext.refl _)
        go_wp2
        by_cases hgo : DF.Cn (PD.adj (l.take i)) u v
        · have HS := Lib.hid (HSY.out hgo)
          clear hgo HSN HSY HSH hw5 e1 e2
          go_region_held3 (fun w' => Ext w5 w' ∧ w'.cell? ⟨wr.heap.size, 0, none⟩ = some (.int .i64 (u : Int)) ∧ w'.cell? ⟨wr.heap.size, 1, none⟩ = some (.int .i64 (v : Int)))
            (exact HC5.out _ (by first | exact Ext.drew _ | exact fst3 (by assumption) | exact Ext.trans (fst3 (by assumption)) (by assumption)))
            (first
              | (go_at_call 30; refine (HS.out _ (Ext.trans HX5.out (fst3 (by assumption)))).mono ?_; rintro e w7 ⟨A7, c7, p7, n7, rfl, hb7, hq7⟩))
          rename_i hHeld
          have HP : Hid (RingPost w k l (.returned (.tuple #[.slice A7 n7 c7, .nilIface])) w7) := by
            obtain ⟨rfl, z2, z3, z4, z5⟩ := hq7.out
            exact ⟨Ext.trans HR.out.1 (Ext.trans HX5.out (fst3 hHeld)), .inr ⟨H0.out, .inr ⟨k, A7, c7, p7, rfl, rfl, z2, z3, z4, z5⟩⟩⟩
          clear hHeld hb7 hq7 HC5 s1 s2
          go_wp2
          go_ret2
          exact HP.out
        · have HS := Lib.hid (HSN.out hgo)
          have HGO := Lib.hid hgo
          clear hgo HSN HSY HSH hw5 e1 e2
          go_region_held3 (fun w' => Ext w5 w' ∧ w'.cell? ⟨wr.heap.size, 0, none⟩ = some (.int .i64 (u : Int)) ∧ w'.cell? ⟨wr.heap.size, 1, none⟩ = some (.int .i64 (v : Int)))
            (exact HC5.out _ (by first | exact Ext.drew _ | exact fst3 (by assumption) | exact Ext.trans (fst3 (by assumption)) (by assumption)))
            (first
              | (go_at_call 30; refine (HS.out _ (Ext.trans HX5.out (fst3 (by assumption)))).mono ?_; rintro e w7 ⟨rfl, hb7⟩))
          rename_i hHeld
          have HN : Hid (Ext w w7 ∧ ∀ (j u v : Nat), j < i + 1 → l[j]? = some ((u : Int), (v : Int)) → ¬ DF.Cn (PD.adj (l.take j)) u v) := by
            refine ⟨Ext.trans HR.out.1 (Ext.trans HX5.out (fst3 hHeld)), fun j u' v' hj hx => ?_⟩
            by_cases e : j = i
            · subst e
              have := HX.out
              rw [hx] at this
              injection this with this
              injection this with h1 h2
              have h1 : u' = u := by omega
              have h2 : v' = v := by omega
              subst h1; subst h2
              exact HGO.out
            · exact HR.out.2 j u' v' (by omega) hx
          clear hHeld hb7 HC5 s1 s2
          go_wp2
          go_roundw
          case rel => exact ⟨i + 1, by omega, by go_num, HN.out⟩
          case measure => simp [intOf]; omega
      · obtain rfl : m = i := by omega
        have HP : Hid (RingPost w k l (.returned (.tuple #[.slice none 0 0, .iface 26 (.int .i64 4)])) wr) :=
          ⟨hR.out.1, .inr ⟨H0.out, .inl ⟨fun j u v hx => hR.out.2 j u v (by have := (List.getElem?_eq_some_iff.1 hx).1; have := HL.out; omega) hx, rfl⟩⟩⟩
        clear hR
        go_wp2
        go_ret2
        exact HP.out
  · have HP : Hid (RingPost w n l (.returned (.tuple #[.slice none 0 0, errOf (edgF n l).2])) w1) := ⟨HX1.out, .inl ⟨h0, rfl⟩⟩
    rw [errOf_n h0] at HP ⊢
    clear h0
    go_wp2
    go_ret2
    exact HP.out
end Go.Proofs.YtakjakglkfhaaaaDoor

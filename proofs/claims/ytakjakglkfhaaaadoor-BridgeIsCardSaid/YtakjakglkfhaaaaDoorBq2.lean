/-
  Walk of bridge.Joints. Conditions: the edges lie in memory as 'EdsAt' says.
-/
import Derived.Test.YtakjakglkfhaaaaDoorBq
namespace Go.Proofs.YtakjakglkfhaaaaDoor
open Go Go.RowKit
set_option linter.unusedVariables false

/-- These are the joints, rising. -/
def JtsOf (n : Nat) (l : List AK.Ed) (js : List Int) : Prop := js.Pairwise (fun x y => x < y) ∧ ∀ x : Int, x ∈ js ↔ ∃ c : Nat, x = (c : Int) ∧ c < n ∧ DF.Jt l c
def JoPost (w : World) (n : Int) (l : List AK.Ed) (e : Ending) (w' : World) : Prop := Ext w w' ∧ (((edgF n l).2 ≠ 0 ∧ e = .returned (.tuple #[.slice none 0 0, errOf (edgF n l).2])) ∨ ((edgF n l).2 = 0 ∧ ∃ (k : Nat) (A : Option Addr) (c : Nat) (x : List Int), n = (k : Int) ∧ e = .returned (.tuple #[.slice A x.length c, .nilIface]) ∧ IntsAt w' A x ∧ x.length ≤ c ∧ x.length ≤ 60 ∧ JtsOf k l x))
theorem natsV_intsV (q : List Nat) : natsV q = intsV (q.map fun (x : Nat) => (x : Int)) := by simp [natsV, intsV]
theorem jts_sorted {n : Nat} {l : List AK.Ed} {s : DF.Wk} (h : DF.All n l n s) (hj : DF.AllJ l s) (hin : ∀ u v, PD.adj l u v → v < n) : JtsOf n l (sorted (s.jo.map fun (x : Nat) => (x : Int))) := by
  refine ⟨?_, fun x => ?_⟩
  · have h1 := sorted_rises (s.jo.map fun (x : Nat) => (x : Int))
    have h2 : (sorted (s.jo.map fun (x : Nat) => (x : Int))).Pairwise (· ≠ ·) := by
      have : (s.jo.map fun (x : Nat) => (x : Int)).Nodup := by
        refine List.Pairwise.map _ (fun a b hab => ?_) hj.nd
        intro e; exact hab (by omega)
      exact (List.mergeSort_perm _ _).nodup_iff.2 this
    exact (h1.and h2).imp fun q => by omega
  · rw [sorted_mem, List.mem_map]
    constructor
    · rintro ⟨c, hc, rfl⟩
      have hv := hj.jm c hc
      exact ⟨c, rfl, DF.V.lt h.wl hv, (hj.jj c hv).1 hc⟩
    · rintro ⟨c, rfl, hc, hJ⟩
      exact ⟨c, (hj.jj c (h.all c hc hc)).2 hJ, rfl⟩
set_option maxHeartbeats 2000000 in
set_option maxRecDepth 100000 in
theorem joints_any (w : World) (n : Int) (A : Option Addr) (m c : Nat) (l : List AK.Ed) (hl : l.length = m) (hlm : m ≤ 9223372036854775807) (h : EdsAt w A l) :
    Calls Tryd.prog 26 #[.int .i64 n, .slice A m c] w (JoPost w n l) := by
  have H := Lib.hid h
  have HL := Lib.hid hl
  clear h hl
  go_enter Tryd.func26, Tryd.ntmps26
  go_wp2_with fail
  refine (check_any w n A m c l HL.out hlm H.out).mono ?_
  rintro e w1 ⟨rfl, hx1⟩
  have HX1 := Lib.hid hx1
  clear hx1
  by_cases h0 : (edgF n l).2 = 0
  · obtain ⟨k, rfl, hk0, hk60, hf⟩ := fine_ok h0
    have HF := Lib.hid hf
    have H0 := Lib.hid h0
    rw [h0, errOf_z]
    clear hf h0
    go_wp2_with fail
    refine (walked_any w1 k A m c l HL.out (H.out.ext HX1.out) HF.out hk0 hk60).mono ?_
    rintro e w2 ⟨kk, vE, vJ, w0, N, rfl, hb, hat, hx, hS⟩
    have HX2 : Hid (Ext w w2) := Ext.trans HX1.out (WdPost.ext hat hx hS)
    have hal := DF.walked_all hb (fine_loop HF.out) (fine_in HF.out) k (Nat.le_refl _)
    have hbd := DF.walked_bd hb (fine_loop HF.out) (fine_in HF.out) k (Nat.le_refl _)
    have hjo := DF.walked_jo hb (fine_loop HF.out) (fine_in HF.out) k (Nat.le_refl _)
    obtain ⟨s, hs⟩ : ∃ s, s = DF.walked N k k := ⟨_, rfl⟩
    rw [← hs] at hat hal hbd hjo
    have HJT := Lib.hid (jts_sorted hal hjo (fine_in HF.out))
    have hlen : s.jo.length ≤ 60 := by have := hbd.jo; have := hbd.un; omega
    have c6 : w2.cell? ⟨kk.W, 6, none⟩ = some vJ := hat.blk.cell 6
    have hjo2 := hat.jo
    rw [natsV_intsV] at hjo2
    have HJO := Lib.hid hjo2
    have hnE : Hid (∀ x, vJ.ownBlock = some x → w.heap.size ≤ x) := fun x hx' => by have := hat.nJ x hx'; have := (Ext.trans HX1.out hx).size; omega
    have HLEN : Hid ((sorted (s.jo.map fun (x : Nat) => (x : Int))).length = s.jo.length) := by rw [Hid, sorted_length, List.length_map]
    clear hat hal hbd hs hx hS hb hjo hjo2
    go_wp2_with fail
    refine (sort_any w2 vJ s.jo.length _ HJO.out (by omega)).mono ?_
    rintro e w3 ⟨rfl, hd, hc⟩
    have HX3 : Hid (Ext w w3) := ((Chg.of_below HX2.out).trans hc (fun i _ hi => hnE.out i hi)).below (Nat.le_refl _) (fun _ _ h => h)
    have HP : Hid (JoPost w k l (.returned (.tuple #[vJ, .nilIface])) w3) := by
      obtain ⟨A', c', rfl, hc'⟩ := own_slice3 hd
      refine ⟨HX3.out, .inr ⟨H0.out, k, A', c', sorted (s.jo.map fun (x : Nat) => (x : Int)), rfl, ?_, (IntsAt.of_own hd).1, ?_, ?_, HJT.out⟩⟩
      · rw [HLEN.out]
      · rw [HLEN.out]; exact hc'
      · rw [HLEN.out]; exact hlen
    clear hd hc c6 hnE
    go_wp2
    go_ret2
    exact HP.out
  · have HP : Hid (JoPost w n l (.returned (.tuple #[.slice none 0 0, errOf (edgF n l).2])) w1) := ⟨HX1.out, .inl ⟨h0, rfl⟩⟩
    rw [errOf_n h0] at HP ⊢
    clear h0
    go_wp2
    go_ret2
    exact HP.out
end Go.Proofs.YtakjakglkfhaaaaDoor

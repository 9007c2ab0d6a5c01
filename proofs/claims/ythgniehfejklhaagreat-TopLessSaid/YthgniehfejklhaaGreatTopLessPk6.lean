/-
  An edge put where it belongs in a rising list, in plain Lean. No program in sight.
  Walks of bridge.Bridges and bridge.Parts. Conditions: the edges lie in memory as 'EdsAt' says.
  Walk of bridge.Joints. Conditions: the edges lie in memory as 'EdsAt' says.
-/
import Derived.Test.YthgniehfejklhaaGreatBs7
import Derived.Test.YthgniehfejklhaaGreatBs37
import Derived.Test.YthgniehfejklhaaGreatTopLessPk4
import Derived.Test.YthgniehfejklhaaGreatTopLessPk5
import Derived.Test.YthgniehfejklhaaGreatBs5
namespace Go.Proofs.YthgniehfejklhaaGreat
open Go
set_option linter.unusedVariables false

end Go.Proofs.YthgniehfejklhaaGreat
namespace Go.Proofs.YthgniehfejklhaaGreat
open Go Go.RowKit
set_option linter.unusedVariables false

/-- These are the bridges, rising. -/
def BrsOf (n : Nat) (l x : List AK.Ed) : Prop := DF.Brs l x ∧ x.Pairwise ltE ∧ ∀ e ∈ x, 0 ≤ e.1 ∧ e.1 < e.2 ∧ e.2 < (n : Int)
theorem errOf_z : errOf 0 = .nilIface := rfl
theorem errOf_n {x : Int} (h : x ≠ 0) : errOf x = .iface 86 (.int .i64 x) := by simp [errOf, h]
def BrPost (w : World) (n : Int) (l : List AK.Ed) (e : Ending) (w' : World) : Prop := Ext w w' ∧ (((edgF n l).2 ≠ 0 ∧ e = .returned (.tuple #[.slice none 0 0, errOf (edgF n l).2])) ∨ ((edgF n l).2 = 0 ∧ ∃ (k : Nat) (A : Option Addr) (c : Nat) (x : List AK.Ed), n = (k : Int) ∧ e = .returned (.tuple #[.slice A x.length c, .nilIface]) ∧ EdsAt w' A x ∧ x.length ≤ c ∧ x.length ≤ 60 ∧ BrsOf k l x))
def PaPost (w : World) (n : Int) (l : List AK.Ed) (e : Ending) (w' : World) : Prop := Ext w w' ∧ (((edgF n l).2 ≠ 0 ∧ e = .returned (.tuple #[.slice none 0 0, errOf (edgF n l).2])) ∨ ((edgF n l).2 = 0 ∧ ∃ (k : Nat) (A : Option Addr) (p : List Int), n = (k : Int) ∧ e = .returned (.tuple #[.slice A k k, .nilIface]) ∧ IntsAt w' A p ∧ DF.Pts k l p))
theorem fine_ok {n : Int} {l : List AK.Ed} (h : (edgF n l).2 = 0) : ∃ k : Nat, n = (k : Int) ∧ 0 < k ∧ k ≤ 60 ∧ Fine k l := by
  obtain ⟨h1, h2, h3, h4, _⟩ := edgF_iff.1 h
  obtain ⟨k, rfl⟩ := Int.eq_ofNat_of_zero_le (show 0 ≤ n by omega)
  exact ⟨k, rfl, by omega, by omega, h3, fun i x hx => h4 x (List.mem_of_getElem? hx)⟩
theorem WdPost.ext {w w' : World} {k : Wkr} {vE vJ : Value} {w0 : World} {n : Nat} {s : DF.Wk} (h : WkAt w0 n k vE vJ s w') (hx : Ext w w0) (hS : ∀ j, k.S j → w.heap.size ≤ j) : Ext w w' :=
  ((Chg.of_below hx).trans h.chg (fun i _ hi => hS i hi)).below (Nat.le_refl _) (fun _ _ h => h)
theorem ek_fine {n c d : Nat} {l : List AK.Ed} (hf : Fine n l) (h : PD.adj l c d) : 0 ≤ (DF.ek c d).1 ∧ (DF.ek c d).1 < (DF.ek c d).2 ∧ (DF.ek c d).2 < (n : Int) := by
  have h1 := fine_in hf _ _ h
  have h2 := fine_in hf _ _ (PD.adj_symm h)
  have h3 : c ≠ d := fun e => fine_loop hf d (e ▸ h)
  unfold DF.ek
  simp only
  omega
theorem ltE_of_key {n : Nat} {x y : AK.Ed} (hn : n ≤ 60) (hx : 0 ≤ x.1 ∧ x.1 < x.2 ∧ x.2 < (n : Int)) (hy : 0 ≤ y.1 ∧ y.1 < y.2 ∧ y.2 < (n : Int)) (h : x.1 * 60 + x.2 ≤ y.1 * 60 + y.2) (hne : x ≠ y) : ltE x y := by
  obtain ⟨a, b⟩ := x
  obtain ⟨c, d⟩ := y
  unfold ltE
  simp only [ne_eq, Prod.mk.injEq] at *
  omega
/-- Where a slice is given back, its block is a new one. -/
def NewSl (w : World) (e : Ending) : Prop := ∀ A m c v, e = .returned (.tuple #[.slice (some A) m c, v]) → w.heap.size ≤ A.block
theorem newSl_own {w : World} {v x : Value} (h : ∀ k, v.ownBlock = some k → w.heap.size ≤ k) : NewSl w (.returned (.tuple #[v, x])) := fun A m c u he => by
  simp only [Ending.returned.injEq, Value.tuple.injEq, Array.mk.injEq, List.cons.injEq] at he
  exact h _ (by rw [he.1]; rfl)
theorem newSl_none {w : World} {x : Value} : NewSl w (.returned (.tuple #[.slice none 0 0, x])) := newSl_own (fun k hk => by simp [Value.ownBlock] at hk)
/-- The sorted bridges are the bridges, rising. -/
theorem brs_sorted {n : Nat} {l : List AK.Ed} {s : DF.Wk} (hf : Fine n l) (hn : n ≤ 60) (h : DF.All n l n s) : BrsOf n l (sortedE s.ed) := by
  have hb := (h.brs (fine_in hf)).perm (y := sortedE s.ed) (fun e => sortedE_mem)
  have hall : ∀ e ∈ sortedE s.ed, 0 ≤ e.1 ∧ e.1 < e.2 ∧ e.2 < (n : Int) := fun e he => by
    obtain ⟨c, d, rfl, hadj⟩ := hb.edm e he
    exact ek_fine hf hadj
  refine ⟨hb, ?_, hall⟩
  have h1 := sortedE_rises s.ed
  have h2 : (sortedE s.ed).Pairwise (· ≠ ·) := sortedE_nodup h.edn
  exact List.Pairwise.imp_of_mem (fun {x y} hx hy q => ltE_of_key hn (hall x hx) (hall y hy) q.1 q.2) (h1.and h2)
set_option maxHeartbeats 2000000 in
set_option maxRecDepth 100000 in
theorem bridges_new (w : World) (n : Int) (A : Option Addr) (m c : Nat) (l : List AK.Ed) (hl : l.length = m) (hlm : m ≤ 9223372036854775807) (h : EdsAt w A l) :
    Calls Tryz.prog 25 #[.int .i64 n, .slice A m c] w fun e w' => BrPost w n l e w' ∧ NewSl w e := by
  have H := Lib.hid h
  have HL := Lib.hid hl
  clear h hl
  go_enter Tryz.func25, Tryz.ntmps25
  go_wp2_with fail
  refine (check_any w n A m c l HL.out hlm H.out).mono ?_
  rintro e w1 ⟨rfl, hx1⟩
  have HX1 := Lib.hid hx1
  clear hx1
  by_cases h0 : (edgF n l).2 = 0
  · obtain ⟨k, rfl, hk0, hk60, hf⟩ := fine_ok h0
    have HF := Lib.hid hf
    have H0 := Lib.hid h0
    rw [h0, errOf_z]
    clear hf h0
    go_wp2_with fail
    refine (walked_any w1 k A m c l HL.out (H.out.ext HX1.out) HF.out hk0 hk60).mono ?_
    rintro e w2 ⟨kk, vE, vJ, w0, N, rfl, hb, hat, hx, hS⟩
    have HX2 : Hid (Ext w w2) := Ext.trans HX1.out (WdPost.ext hat hx hS)
    have hal := DF.walked_all hb (fine_loop HF.out) (fine_in HF.out) k (Nat.le_refl _)
    have hbd := DF.walked_bd hb (fine_loop HF.out) (fine_in HF.out) k (Nat.le_refl _)
    obtain ⟨s, hs⟩ : ∃ s, s = DF.walked N k k := ⟨_, rfl⟩
    rw [← hs] at hat hal hbd
    have HBR := Lib.hid (brs_sorted HF.out hk60 hal)
    have hlen : s.ed.length ≤ 60 := by have := hbd.ed; have := hbd.un; omega
    have c5 : w2.cell? ⟨kk.W, 5, none⟩ = some vE := hat.blk.cell 5
    have hed := Lib.hid hat.ed
    have hnE : Hid (∀ x, vE.ownBlock = some x → w.heap.size ≤ x) := fun x hx' => by have := hat.nE x hx'; have := (Ext.trans HX1.out hx).size; omega
    have hall : Hid (∀ x ∈ s.ed, 0 ≤ x.1 ∧ x.1 < 60 ∧ 0 ≤ x.2 ∧ x.2 < 60) := fun x hx' => by
      have := HBR.out.2.2 x (sortedE_mem.2 hx')
      omega
    have HLEN : Hid ((sortedE s.ed).length ≤ 60) := by rw [Hid, sortedE_length]; exact hlen
    clear hat hal hbd hs hx hS hb
    go_wp2_with fail
    refine (sortEb_any w2 vE s.ed hall.out (by omega) hed.out).mono ?_
    rintro e w3 ⟨rfl, hd, hc⟩
    have HX3 : Hid (Ext w w3) := ((Chg.of_below HX2.out).trans hc (fun i _ hi => hnE.out i hi)).below (Nat.le_refl _) (fun _ _ h => h)
    have HP : Hid (BrPost w k l (.returned (.tuple #[vE, .nilIface])) w3 ∧ NewSl w (.returned (.tuple #[vE, .nilIface]))) := by
      refine ⟨?_, newSl_own hnE.out⟩
      unfold DRow at hd
      obtain ⟨A', c', rfl, hc'⟩ := own_slice3 hd
      exact ⟨HX3.out, .inr ⟨H0.out, k, A', c', sortedE s.ed, rfl, rfl, (DRow.eds hd rfl).1, hc', HLEN.out, HBR.out⟩⟩
    clear hd hc c5 hed hnE hall
    go_wp2
    go_ret2
    exact HP.out
  · have HP : Hid (BrPost w n l (.returned (.tuple #[.slice none 0 0, errOf (edgF n l).2])) w1 ∧ NewSl w (.returned (.tuple #[.slice none 0 0, errOf (edgF n l).2]))) := ⟨⟨HX1.out, .inl ⟨h0, rfl⟩⟩, newSl_none⟩
    rw [errOf_n h0] at HP ⊢
    clear h0
    go_wp2
    go_ret2
    exact HP.out
theorem bridges_any (w : World) (n : Int) (A : Option Addr) (m c : Nat) (l : List AK.Ed) (hl : l.length = m) (hlm : m ≤ 9223372036854775807) (h : EdsAt w A l) :
    Calls Tryz.prog 25 #[.int .i64 n, .slice A m c] w (BrPost w n l) := (bridges_new w n A m c l hl hlm h).mono fun _ _ q => q.1
set_option maxHeartbeats 2000000 in
set_option maxRecDepth 100000 in
theorem bparts_any (w : World) (n : Int) (A : Option Addr) (m c : Nat) (l : List AK.Ed) (hl : l.length = m) (hlm : m ≤ 9223372036854775807) (h : EdsAt w A l) :
    Calls Tryz.prog 33 #[.int .i64 n, .slice A m c] w (PaPost w n l) := by
  have H := Lib.hid h
  have HL := Lib.hid hl
  clear h hl
  go_enter Tryz.func33, Tryz.ntmps33
  go_wp2_with fail
  refine (check_any w n A m c l HL.out hlm H.out).mono ?_
  rintro e w1 ⟨rfl, hx1⟩
  have HX1 := Lib.hid hx1
  clear hx1
  by_cases h0 : (edgF n l).2 = 0
  · obtain ⟨k, rfl, hk0, hk60, hf⟩ := fine_ok h0
    have HF := Lib.hid hf
    have H0 := Lib.hid h0
    rw [h0, errOf_z]
    clear hf h0
    go_wp2_with fail
    refine (walked_any w1 k A m c l HL.out (H.out.ext HX1.out) HF.out hk0 hk60).mono ?_
    rintro e w2 ⟨kk, vE, vJ, w0, N, rfl, hb, hat, hx, hS⟩
    have HX2 : Hid (Ext w w2) := Ext.trans HX1.out (WdPost.ext hat hx hS)
    have hal := DF.walked_all hb (fine_loop HF.out) (fine_in HF.out) k (Nat.le_refl _)
    have c3 : w2.cell? ⟨kk.W, 3, none⟩ = some (.slice (some ⟨kk.gp, 0, none⟩) k k) := hat.blk.cell 3
    have HP : Hid (PaPost w k l (.returned (.tuple #[.slice (some ⟨kk.gp, 0, none⟩) k k, .nilIface])) w2) :=
      ⟨HX2.out, .inr ⟨H0.out, k, _, _, rfl, rfl, (IntsAt.of_own hat.pa).1, hal.pts (fine_in HF.out)⟩⟩
    clear hat hal hx hS hb
    go_wp2
    go_ret2
    exact HP.out
  · have HP : Hid (PaPost w n l (.returned (.tuple #[.slice none 0 0, errOf (edgF n l).2])) w1) := ⟨HX1.out, .inl ⟨h0, rfl⟩⟩
    rw [errOf_n h0] at HP ⊢
    clear h0
    go_wp2
    go_ret2
    exact HP.out
end Go.Proofs.YthgniehfejklhaaGreat
namespace Go.Proofs.YthgniehfejklhaaGreat
open Go Go.RowKit
set_option linter.unusedVariables false

/-- These are the joints, rising. -/
def JtsOf (n : Nat) (l : List AK.Ed) (js : List Int) : Prop := js.Pairwise (fun x y => x < y) ∧ ∀ x : Int, x ∈ js ↔ ∃ c : Nat, x = (c : Int) ∧ c < n ∧ DF.Jt l c
def JoPost (w : World) (n : Int) (l : List AK.Ed) (e : Ending) (w' : World) : Prop := Ext w w' ∧ (((edgF n l).2 ≠ 0 ∧ e = .returned (.tuple #[.slice none 0 0, errOf (edgF n l).2])) ∨ ((edgF n l).2 = 0 ∧ ∃ (k : Nat) (A : Option Addr) (c : Nat) (x : List Int), n = (k : Int) ∧ e = .returned (.tuple #[.slice A x.length c, .nilIface]) ∧ IntsAt w' A x ∧ x.length ≤ c ∧ x.length ≤ 60 ∧ JtsOf k l x))
theorem natsV_intsV (q : List Nat) : natsV q = intsV (q.map fun (x : Nat) => (x : Int)) := by simp [natsV, intsV]
theorem jts_sorted {n : Nat} {l : List AK.Ed} {s : DF.Wk} (h : DF.All n l n s) (hj : DF.AllJ l s) (hin : ∀ u v, PD.adj l u v → v < n) : JtsOf n l (sorted (s.jo.map fun (x : Nat) => (x : Int))) := by
  refine ⟨?_, fun x => ?_⟩
  · have h1 := sorted_rises (s.jo.map fun (x : Nat) => (x : Int))
    have h2 : (sorted (s.jo.map fun (x : Nat) => (x : Int))).Pairwise (· ≠ ·) := by
      have : (s.jo.map fun (x : Nat) => (x : Int)).Nodup := by
        refine List.Pairwise.map _ (fun a b hab => ?_) hj.nd
        intro e; exact hab (by omega)
      exact (List.mergeSort_perm _ _).nodup_iff.2 this
    exact (h1.and h2).imp fun q => by omega
  · rw [sorted_mem, List.mem_map]
    constructor
    · rintro ⟨c, hc, rfl⟩
      have hv := hj.jm c hc
      exact ⟨c, rfl, DF.V.lt h.wl hv, (hj.jj c hv).1 hc⟩
    · rintro ⟨c, rfl, hc, hJ⟩
      exact ⟨c, (hj.jj c (h.all c hc hc)).2 hJ, rfl⟩
set_option maxHeartbeats 2000000 in
set_option maxRecDepth 100000 in
theorem joints_new (w : World) (n : Int) (A : Option Addr) (m c : Nat) (l : List AK.Ed) (hl : l.length = m) (hlm : m ≤ 9223372036854775807) (h : EdsAt w A l) :
    Calls Tryz.prog 29 #[.int .i64 n, .slice A m c] w fun e w' => JoPost w n l e w' ∧ NewSl w e := by
  have H := Lib.hid h
  have HL := Lib.hid hl
  clear h hl
  go_enter Tryz.func29, Tryz.ntmps29
  go_wp2_with fail
  refine (check_any w n A m c l HL.out hlm H.out).mono ?_
  rintro e w1 ⟨rfl, hx1⟩
  have HX1 := Lib.hid hx1
  clear hx1
  by_cases h0 : (edgF n l).2 = 0
  · obtain ⟨k, rfl, hk0, hk60, hf⟩ := fine_ok h0
    have HF := Lib.hid hf
    have H0 := Lib.hid h0
    rw [h0, errOf_z]
    clear hf h0
    go_wp2_with fail
    refine (walked_any w1 k A m c l HL.out (H.out.ext HX1.out) HF.out hk0 hk60).mono ?_
    rintro e w2 ⟨kk, vE, vJ, w0, N, rfl, hb, hat, hx, hS⟩
    have HX2 : Hid (Ext w w2) := Ext.trans HX1.out (WdPost.ext hat hx hS)
    have hal := DF.walked_all hb (fine_loop HF.out) (fine_in HF.out) k (Nat.le_refl _)
    have hbd := DF.walked_bd hb (fine_loop HF.out) (fine_in HF.out) k (Nat.le_refl _)
    have hjo := DF.walked_jo hb (fine_loop HF.out) (fine_in HF.out) k (Nat.le_refl _)
    obtain ⟨s, hs⟩ : ∃ s, s = DF.walked N k k := ⟨_, rfl⟩
    rw [← hs] at hat hal hbd hjo
    have HJT := Lib.hid (jts_sorted hal hjo (fine_in HF.out))
    have hlen : s.jo.length ≤ 60 := by have := hbd.jo; have := hbd.un; omega
    have c6 : w2.cell? ⟨kk.W, 6, none⟩ = some vJ := hat.blk.cell 6
    have hjo2 := hat.jo
    rw [natsV_intsV] at hjo2
    have HJO := Lib.hid hjo2
    have hnE : Hid (∀ x, vJ.ownBlock = some x → w.heap.size ≤ x) := fun x hx' => by have := hat.nJ x hx'; have := (Ext.trans HX1.out hx).size; omega
    have HLEN : Hid ((sorted (s.jo.map fun (x : Nat) => (x : Int))).length = s.jo.length) := by rw [Hid, sorted_length, List.length_map]
    clear hat hal hbd hs hx hS hb hjo hjo2
    go_wp2_with fail
    refine (sort_any w2 vJ s.jo.length _ HJO.out (by omega)).mono ?_
    rintro e w3 ⟨rfl, hd, hc⟩
    have HX3 : Hid (Ext w w3) := ((Chg.of_below HX2.out).trans hc (fun i _ hi => hnE.out i hi)).below (Nat.le_refl _) (fun _ _ h => h)
    have HP : Hid (JoPost w k l (.returned (.tuple #[vJ, .nilIface])) w3 ∧ NewSl w (.returned (.tuple #[vJ, .nilIface]))) := by
      refine ⟨?_, newSl_own hnE.out⟩
      obtain ⟨A', c', rfl, hc'⟩ := own_slice3 hd
      refine ⟨HX3.out, .inr ⟨H0.out, k, A', c', sorted (s.jo.map fun (x : Nat) => (x : Int)), rfl, ?_, (IntsAt.of_own hd).1, ?_, ?_, HJT.out⟩⟩
      · rw [HLEN.out]
      · rw [HLEN.out]; exact hc'
      · rw [HLEN.out]; exact hlen
    clear hd hc c6 hnE
    go_wp2
    go_ret2
    exact HP.out
  · have HP : Hid (JoPost w n l (.returned (.tuple #[.slice none 0 0, errOf (edgF n l).2])) w1 ∧ NewSl w (.returned (.tuple #[.slice none 0 0, errOf (edgF n l).2]))) := ⟨⟨HX1.out, .inl ⟨h0, rfl⟩⟩, newSl_none⟩
    rw [errOf_n h0] at HP ⊢
    clear h0
    go_wp2
    go_ret2
    exact HP.out
theorem joints_any (w : World) (n : Int) (A : Option Addr) (m c : Nat) (l : List AK.Ed) (hl : l.length = m) (hlm : m ≤ 9223372036854775807) (h : EdsAt w A l) :
    Calls Tryz.prog 29 #[.int .i64 n, .slice A m c] w (JoPost w n l) := (joints_new w n A m c l hl hlm h).mono fun _ _ q => q.1
end Go.Proofs.YthgniehfejklhaaGreat

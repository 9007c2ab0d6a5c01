/-
  An edge put where it belongs in a rising list, in plain Lean. No program in sight.
  Walks of bridge.Bridges and bridge.Parts. Conditions: the edges lie in memory as 'EdsAt' says.
  Walk of bridge.Joints. Conditions: the edges lie in memory as 'EdsAt' says.
-/
import Derived.Test.YtakjakglkfhaaaaDoorBk1
import Derived.Test.YtakjakglkfhaaaaDoorWw
import Derived.Test.YtakjakglkfhaaaaDoorSf
import Derived.Test.YtakjakglkfhaaaaDoorDfs
namespace Go.Proofs.YtakjakglkfhaaaaDoor
open Go
set_option linter.unusedVariables false

/-- It comes first. -/
def ltE (x y : AK.Ed) : Prop := x.1 < y.1 ∨ (x.1 = y.1 ∧ x.2 < y.2)
instance (x y : AK.Ed) : Decidable (ltE x y) := by unfold ltE; infer_instance
def putE (e : AK.Ed) : List AK.Ed → List AK.Ed
  | [] => [e]
  | x :: r => if ltE e x then e :: x :: r else x :: putE e r
theorem putE_mem {e y : AK.Ed} : ∀ {l : List AK.Ed}, y ∈ putE e l ↔ y = e ∨ y ∈ l
  | [] => by simp [putE]
  | x :: r => by
    unfold putE
    split
    · simp
    · rw [List.mem_cons, putE_mem (l := r), List.mem_cons]
      constructor
      · rintro (h | h | h)
        · exact .inr (.inl h)
        · exact .inl h
        · exact .inr (.inr h)
      · rintro (h | h | h)
        · exact .inr (.inl h)
        · exact .inl h
        · exact .inr (.inr h)
theorem putE_length (e : AK.Ed) : ∀ l : List AK.Ed, (putE e l).length = l.length + 1
  | [] => rfl
  | x :: r => by
    unfold putE
    split
    · simp
    · rw [List.length_cons, putE_length e r, List.length_cons]
theorem ltE_trans {x y z : AK.Ed} (h : ltE x y) (k : ltE y z) : ltE x z := by unfold ltE at *; omega
theorem putE_rises {e : AK.Ed} : ∀ {l : List AK.Ed}, l.Pairwise ltE → e ∉ l → (putE e l).Pairwise ltE
  | [], _, _ => by simp [putE]
  | x :: r, h, hn => by
    rw [List.pairwise_cons] at h
    unfold putE
    split
    · rename_i hlt
      rw [List.pairwise_cons]
      refine ⟨fun y hy => ?_, by rw [List.pairwise_cons]; exact h⟩
      rcases List.mem_cons.1 hy with hy | hy
      · subst hy; exact hlt
      · exact ltE_trans hlt (h.1 y hy)
    · rename_i hlt
      rw [List.pairwise_cons]
      refine ⟨fun y hy => ?_, putE_rises h.2 (fun w => hn (List.mem_cons_of_mem _ w))⟩
      rcases putE_mem.1 hy with hy | hy
      · subst hy
        have : y ≠ x := fun w => hn (w ▸ List.mem_cons_self ..)
        obtain ⟨a, b⟩ := x
        obtain ⟨c, d⟩ := y
        unfold ltE at *
        simp only [ne_eq, Prod.mk.injEq] at *
        omega
      · exact h.1 y hy
/-- Edges that may be, as the code's test says it. -/
theorem efGo_none {c : Nat → Int} : ∀ {f i : Nat}, (∀ j, i ≤ j → j < i + f → c j = 0) → (efGo c f i).2 = 0
  | 0, i, h => rfl
  | f + 1, i, h => by
    rw [efGo_ok (h i (Nat.le_refl _) (by omega))]
    exact efGo_none fun j h1 h2 => h j (by omega) (by omega)
theorem edgF_iff {n : Int} {l : List AK.Ed} : (edgF n l).2 = 0 ↔ 1 ≤ n ∧ n ≤ 60 ∧ l.length ≤ 200 ∧ (∀ x ∈ l, 0 ≤ x.1 ∧ x.1 < x.2 ∧ x.2 < n) ∧ l.Pairwise ltE := by
  unfold edgF
  by_cases h1 : n < 1 ∨ 60 < n
  · rw [if_pos h1]; simp; omega
  rw [if_neg h1]
  by_cases h2 : 200 < l.length
  · rw [if_pos h2]; simp; omega
  rw [if_neg h2]
  have key : (efGo (eCode n l) l.length 0).2 = 0 ↔ ∀ j, j < l.length → eCode n l j = 0 := by
    constructor
    · intro h j hj
      generalize hc : eCode n l = c at *
      have : ∀ (f i : Nat), (efGo c f i).2 = 0 → ∀ j, i ≤ j → j < i + f → c j = 0 := by
        intro f
        induction f with
        | zero => intro i _ j h1 h2; omega
        | succ f ih =>
          intro i h j h1 h2
          by_cases e : c i = 0
          · rw [efGo_ok e] at h
            by_cases q : j = i
            · subst q; exact e
            · exact ih (i + 1) h j (by omega) (by omega)
          · rw [efGo_bad rfl e] at h
            exact absurd h e
      exact this l.length 0 h j (Nat.zero_le _) (by omega)
    · intro h; exact efGo_none fun j _ h2 => h j (by omega)
  rw [key]
  constructor
  · intro h
    have h3 : ∀ x ∈ l, 0 ≤ x.1 ∧ x.1 < x.2 ∧ x.2 < n := fun x hx => by
      obtain ⟨i, hi, rfl⟩ := List.getElem_of_mem hx
      have hx' : l[i]? = some l[i] := List.getElem?_eq_getElem hi
      have := h i hi
      apply Classical.byContradiction
      intro w
      rw [eCode_bad hx' (by omega)] at this
      exact absurd this (by decide)
    refine ⟨by omega, by omega, by omega, h3, ?_⟩
    rw [List.pairwise_iff_getElem]
    have step : ∀ j (hj : j + 1 < l.length), ltE (l[j]'(by omega)) l[j + 1] := fun j hj => by
      have hx : l[j + 1]? = some l[j + 1] := List.getElem?_eq_getElem hj
      have hy : l[j]? = some (l[j]'(by omega)) := List.getElem?_eq_getElem (by omega)
      have hok := h3 l[j + 1] (List.getElem_mem hj)
      have := h (j + 1) hj
      apply Classical.byContradiction
      intro w
      rw [eCode_2 hx hy (by omega) (by unfold ltE at w; omega)] at this
      exact absurd this (by decide)
    intro i j hi hj hij
    obtain ⟨d, rfl⟩ : ∃ d, j = i + 1 + d := ⟨j - (i + 1), by omega⟩
    induction d with
    | zero => exact step i hj
    | succ d ih => exact ltE_trans (ih (by omega) (by omega)) (step (i + 1 + d) (by omega))
  · rintro ⟨_, _, _, h3, h4⟩ j hj
    rw [List.pairwise_iff_getElem] at h4
    have hx : l[j]? = some l[j] := List.getElem?_eq_getElem hj
    have hok := h3 l[j] (List.getElem_mem hj)
    cases j with
    | zero => exact eCode_0 hx (by omega)
    | succ j =>
      have hy : l[j]? = some (l[j]'(by omega)) := List.getElem?_eq_getElem (by omega)
      have := h4 j (j + 1) (by omega) hj (by omega)
      exact eCode_ok hx hy (by omega) (by unfold ltE at this; omega)
/-- Rising rows with the same members are one. -/
theorem rises_ext {l m : List AK.Ed} (hl : l.Pairwise ltE) (hm : m.Pairwise ltE) (h : ∀ x, x ∈ l ↔ x ∈ m) : l = m := by
  induction l generalizing m with
  | nil =>
    cases m with
    | nil => rfl
    | cons y m => exact absurd ((h y).2 (List.mem_cons_self ..)) (List.not_mem_nil)
  | cons x l ih =>
    cases m with
    | nil => exact absurd ((h x).1 (List.mem_cons_self ..)) (List.not_mem_nil)
    | cons y m =>
      rw [List.pairwise_cons] at hl hm
      have irr : ∀ z : AK.Ed, ¬ ltE z z := fun z w => by unfold ltE at w; omega
      have e : x = y := by
        rcases List.mem_cons.1 ((h x).1 (List.mem_cons_self ..)) with w | w
        · exact w
        · rcases List.mem_cons.1 ((h y).2 (List.mem_cons_self ..)) with z | z
          · exact z.symm
          · exact absurd (ltE_trans (hl.1 y z) (hm.1 x w)) (irr x)
      subst e
      congr 1
      refine ih hl.2 hm.2 fun z => ⟨fun w => ?_, fun w => ?_⟩
      · rcases List.mem_cons.1 ((h z).1 (List.mem_cons_of_mem _ w)) with q | q
        · subst q; exact absurd (hl.1 z w) (irr z)
        · exact q
      · rcases List.mem_cons.1 ((h z).2 (List.mem_cons_of_mem _ w)) with q | q
        · subst q; exact absurd (hm.1 z w) (irr z)
        · exact q
end Go.Proofs.YtakjakglkfhaaaaDoor
namespace Go.Proofs.YtakjakglkfhaaaaDoor
open Go Go.RowKit
set_option linter.unusedVariables false

/-- These are the bridges, rising. -/
def BrsOf (n : Nat) (l x : List AK.Ed) : Prop := DF.Brs l x ∧ x.Pairwise ltE ∧ ∀ e ∈ x, 0 ≤ e.1 ∧ e.1 < e.2 ∧ e.2 < (n : Int)
theorem errOf_z : errOf 0 = .nilIface := rfl
theorem errOf_n {x : Int} (h : x ≠ 0) : errOf x = .iface 26 (.int .i64 x) := by simp [errOf, h]
def BrPost (w : World) (n : Int) (l : List AK.Ed) (e : Ending) (w' : World) : Prop := Ext w w' ∧ (((edgF n l).2 ≠ 0 ∧ e = .returned (.tuple #[.slice none 0 0, errOf (edgF n l).2])) ∨ ((edgF n l).2 = 0 ∧ ∃ (k : Nat) (A : Option Addr) (c : Nat) (x : List AK.Ed), n = (k : Int) ∧ e = .returned (.tuple #[.slice A x.length c, .nilIface]) ∧ EdsAt w' A x ∧ x.length ≤ c ∧ x.length ≤ 60 ∧ BrsOf k l x))
def PaPost (w : World) (n : Int) (l : List AK.Ed) (e : Ending) (w' : World) : Prop := Ext w w' ∧ (((edgF n l).2 ≠ 0 ∧ e = .returned (.tuple #[.slice none 0 0, errOf (edgF n l).2])) ∨ ((edgF n l).2 = 0 ∧ ∃ (k : Nat) (A : Option Addr) (p : List Int), n = (k : Int) ∧ e = .returned (.tuple #[.slice A k k, .nilIface]) ∧ IntsAt w' A p ∧ DF.Pts k l p))
theorem fine_ok {n : Int} {l : List AK.Ed} (h : (edgF n l).2 = 0) : ∃ k : Nat, n = (k : Int) ∧ 0 < k ∧ k ≤ 60 ∧ Fine k l := by
  obtain ⟨h1, h2, h3, h4, _⟩ := edgF_iff.1 h
  obtain ⟨k, rfl⟩ := Int.eq_ofNat_of_zero_le (show 0 ≤ n by omega)
  exact ⟨k, rfl, by omega, by omega, h3, fun i x hx => h4 x (List.mem_of_getElem? hx)⟩
theorem WdPost.ext {w w' : World} {k : Wkr} {vE vJ : Value} {w0 : World} {n : Nat} {s : DF.Wk} (h : WkAt w0 n k vE vJ s w') (hx : Ext w w0) (hS : ∀ j, k.S j → w.heap.size ≤ j) : Ext w w' :=
  ((Chg.of_below hx).trans h.chg (fun i _ hi => hS i hi)).below (Nat.le_refl _) (fun _ _ h => h)
theorem ek_fine {n c d : Nat} {l : List AK.Ed} (hf : Fine n l) (h : PD.adj l c d) : 0 ≤ (DF.ek c d).1 ∧ (DF.ek c d).1 < (DF.ek c d).2 ∧ (DF.ek c d).2 < (n : Int) := by
  have h1 := fine_in hf _ _ h
  have h2 := fine_in hf _ _ (PD.adj_symm h)
  have h3 : c ≠ d := fun e => fine_loop hf d (e ▸ h)
  unfold DF.ek
  simp only
  omega
theorem ltE_of_key {n : Nat} {x y : AK.Ed} (hn : n ≤ 60) (hx : 0 ≤ x.1 ∧ x.1 < x.2 ∧ x.2 < (n : Int)) (hy : 0 ≤ y.1 ∧ y.1 < y.2 ∧ y.2 < (n : Int)) (h : x.1 * 60 + x.2 ≤ y.1 * 60 + y.2) (hne : x ≠ y) : ltE x y := by
  obtain ⟨a, b⟩ := x
  obtain ⟨c, d⟩ := y
  unfold ltE
  simp only [ne_eq, Prod.mk.injEq] at *
  omega
/-- The sorted bridges are the bridges, rising. -/
theorem brs_sorted {n : Nat} {l : List AK.Ed} {s : DF.Wk} (hf : Fine n l) (hn : n ≤ 60) (h : DF.All n l n s) : BrsOf n l (sortedE s.ed) := by
  have hb := (h.brs (fine_in hf)).perm (y := sortedE s.ed) (fun e => sortedE_mem)
  have hall : ∀ e ∈ sortedE s.ed, 0 ≤ e.1 ∧ e.1 < e.2 ∧ e.2 < (n : Int) := fun e he => by
    obtain ⟨c, d, rfl, hadj⟩ := hb.edm e he
    exact ek_fine hf hadj
  refine ⟨hb, ?_, hall⟩
  have h1 := sortedE_rises s.ed
  have h2 : (sortedE s.ed).Pairwise (· ≠ ·) := sortedE_nodup h.edn
  exact List.Pairwise.imp_of_mem (fun {x y} hx hy q => ltE_of_key hn (hall x hx) (hall y hy) q.1 q.2) (h1.and h2)
set_option maxHeartbeats 2000000 in
set_option maxRecDepth 100000 in
theorem bridges_any (w : World) (n : Int) (A : Option Addr) (m c : Nat) (l : List AK.Ed) (hl : l.length = m) (hlm : m ≤ 9223372036854775807) (h : EdsAt w A l) :
    Calls Tryd.prog 25 #[.int .i64 n, .slice A m c] w (BrPost w n l) := by
  have H := Lib.hid h
  have HL := Lib.hid hl
  clear h hl
  go_enter Tryd.func25, Tryd.ntmps25
  go_wp2_with fail
  refine (check_any w n A m c l HL.out hlm H.out).mono ?_
  rintro e w1 ⟨rfl, hx1⟩
  have HX1 := Lib.hid hx1
  clear hx1
  by_cases h0 : (edgF n l).2 = 0
  · obtain ⟨k, rfl, hk0, hk60, hf⟩ := fine_ok h0
    have HF := Lib.hid hf
    have H0 := Lib.hid h0
    rw [h0, errOf_z]
    clear hf h0
    go_wp2_with fail
    refine (walked_any w1 k A m c l HL.out (H.out.ext HX1.out) HF.out hk0 hk60).mono ?_
    rintro e w2 ⟨kk, vE, vJ, w0, N, rfl, hb, hat, hx, hS⟩
    have HX2 : Hid (Ext w w2) := Ext.trans HX1.out (WdPost.ext hat hx hS)
    have hal := DF.walked_all hb (fine_loop HF.out) (fine_in HF.out) k (Nat.le_refl _)
    have hbd := DF.walked_bd hb (fine_loop HF.out) (fine_in HF.out) k (Nat.le_refl _)
    obtain ⟨s, hs⟩ : ∃ s, s = DF.walked N k k := ⟨_, rfl⟩
    rw [← hs] at hat hal hbd
    have HBR := Lib.hid (brs_sorted HF.out hk60 hal)
    have hlen : s.ed.length ≤ 60 := by have := hbd.ed; have := hbd.un; omega
    have c5 : w2.cell? ⟨kk.W, 5, none⟩ = some vE := hat.blk.cell 5
    have hed := Lib.hid hat.ed
    have hnE : Hid (∀ x, vE.ownBlock = some x → w.heap.size ≤ x) := fun x hx' => by have := hat.nE x hx'; have := (Ext.trans HX1.out hx).size; omega
    have hall : Hid (∀ x ∈ s.ed, 0 ≤ x.1 ∧ x.1 < 60 ∧ 0 ≤ x.2 ∧ x.2 < 60) := fun x hx' => by
      have := HBR.out.2.2 x (sortedE_mem.2 hx')
      omega
    have HLEN : Hid ((sortedE s.ed).length ≤ 60) := by rw [Hid, sortedE_length]; exact hlen
    clear hat hal hbd hs hx hS hb
    go_wp2_with fail
    refine (sortE_any w2 vE s.ed hall.out (by omega) hed.out).mono ?_
    rintro e w3 ⟨rfl, hd, hc⟩
    have HX3 : Hid (Ext w w3) := ((Chg.of_below HX2.out).trans hc (fun i _ hi => hnE.out i hi)).below (Nat.le_refl _) (fun _ _ h => h)
    have HP : Hid (BrPost w k l (.returned (.tuple #[vE, .nilIface])) w3) := by
      unfold DRow at hd
      obtain ⟨A', c', rfl, hc'⟩ := own_slice3 hd
      exact ⟨HX3.out, .inr ⟨H0.out, k, A', c', sortedE s.ed, rfl, rfl, (DRow.eds hd rfl).1, hc', HLEN.out, HBR.out⟩⟩
    clear hd hc c5 hed hnE hall
    go_wp2
    go_ret2
    exact HP.out
  · have HP : Hid (BrPost w n l (.returned (.tuple #[.slice none 0 0, errOf (edgF n l).2])) w1) := ⟨HX1.out, .inl ⟨h0, rfl⟩⟩
    rw [errOf_n h0] at HP ⊢
    clear h0
    go_wp2
    go_ret2
    exact HP.out
set_option maxHeartbeats 2000000 in
set_option maxRecDepth 100000 in
theorem bparts_any (w : World) (n : Int) (A : Option Addr) (m c : Nat) (l : List AK.Ed) (hl : l.length = m) (hlm : m ≤ 9223372036854775807) (h : EdsAt w A l) :
    Calls Tryd.prog 28 #[.int .i64 n, .slice A m c] w (PaPost w n l) := by
  have H := Lib.hid h
  have HL := Lib.hid hl
  clear h hl
  go_enter Tryd.func28, Tryd.ntmps28
  go_wp2_with fail
  refine (check_any w n A m c l HL.out hlm H.out).mono ?_
  rintro e w1 ⟨rfl, hx1⟩
  have HX1 := Lib.hid hx1
  clear hx1
  by_cases h0 : (edgF n l).2 = 0
  · obtain ⟨k, rfl, hk0, hk60, hf⟩ := fine_ok h0
    have HF := Lib.hid hf
    have H0 := Lib.hid h0
    rw [h0, errOf_z]
    clear hf h0
    go_wp2_with fail
    refine (walked_any w1 k A m c l HL.out (H.out.ext HX1.out) HF.out hk0 hk60).mono ?_
    rintro e w2 ⟨kk, vE, vJ, w0, N, rfl, hb, hat, hx, hS⟩
    have HX2 : Hid (Ext w w2) := Ext.trans HX1.out (WdPost.ext hat hx hS)
    have hal := DF.walked_all hb (fine_loop HF.out) (fine_in HF.out) k (Nat.le_refl _)
    have c3 : w2.cell? ⟨kk.W, 3, none⟩ = some (.slice (some ⟨kk.gp, 0, none⟩) k k) := hat.blk.cell 3
    have HP : Hid (PaPost w k l (.returned (.tuple #[.slice (some ⟨kk.gp, 0, none⟩) k k, .nilIface])) w2) :=
      ⟨HX2.out, .inr ⟨H0.out, k, _, _, rfl, rfl, (IntsAt.of_own hat.pa).1, hal.pts (fine_in HF.out)⟩⟩
    clear hat hal hx hS hb
    go_wp2
    go_ret2
    exact HP.out
  · have HP : Hid (PaPost w n l (.returned (.tuple #[.slice none 0 0, errOf (edgF n l).2])) w1) := ⟨HX1.out, .inl ⟨h0, rfl⟩⟩
    rw [errOf_n h0] at HP ⊢
    clear h0
    go_wp2
    go_ret2
    exact HP.out
end Go.Proofs.YtakjakglkfhaaaaDoor
namespace Go.Proofs.YtakjakglkfhaaaaDoor
open Go Go.RowKit
set_option linter.unusedVariables false

/-- These are the joints, rising. -/
def JtsOf (n : Nat) (l : List AK.Ed) (js : List Int) : Prop := js.Pairwise (fun x y => x < y) ∧ ∀ x : Int, x ∈ js ↔ ∃ c : Nat, x = (c : Int) ∧ c < n ∧ DF.Jt l c
def JoPost (w : World) (n : Int) (l : List AK.Ed) (e : Ending) (w' : World) : Prop := Ext w w' ∧ (((edgF n l).2 ≠ 0 ∧ e = .returned (.tuple #[.slice none 0 0, errOf (edgF n l).2])) ∨ ((edgF n l).2 = 0 ∧ ∃ (k : Nat) (A : Option Addr) (c : Nat) (x : List Int), n = (k : Int) ∧ e = .returned (.tuple #[.slice A x.length c, .nilIface]) ∧ IntsAt w' A x ∧ x.length ≤ c ∧ x.length ≤ 60 ∧ JtsOf k l x))
theorem natsV_intsV (q : List Nat) : natsV q = intsV (q.map fun (x : Nat) => (x : Int)) := by simp [natsV, intsV]
theorem jts_sorted {n : Nat} {l : List AK.Ed} {s : DF.Wk} (h : DF.All n l n s) (hj : DF.AllJ l s) (hin : ∀ u v, PD.adj l u v → v < n) : JtsOf n l (sorted (s.jo.map fun (x : Nat) => (x : Int))) := by
  refine ⟨?_, fun x => ?_⟩
  · have h1 := sorted_rises (s.jo.map fun (x : Nat) => (x : Int))
    have h2 : (sorted (s.jo.map fun (x : Nat) => (x : Int))).Pairwise (· ≠ ·) := by
      have : (s.jo.map fun (x : Nat) => (x : Int)).Nodup := by
        refine List.Pairwise.map _ (fun a b hab => ?_) hj.nd
        intro e; exact hab (by omega)
      exact (List.mergeSort_perm _ _).nodup_iff.2 this
    exact (h1.and h2).imp fun q => by omega
  · rw [sorted_mem, List.mem_map]
    constructor
    · rintro ⟨c, hc, rfl⟩
      have hv := hj.jm c hc
      exact ⟨c, rfl, DF.V.lt h.wl hv, (hj.jj c hv).1 hc⟩
    · rintro ⟨c, rfl, hc, hJ⟩
      exact ⟨c, (hj.jj c (h.all c hc hc)).2 hJ, rfl⟩
set_option maxHeartbeats 2000000 in
set_option maxRecDepth 100000 in
theorem joints_any (w : World) (n : Int) (A : Option Addr) (m c : Nat) (l : List AK.Ed) (hl : l.length = m) (hlm : m ≤ 9223372036854775807) (h : EdsAt w A l) :
    Calls Tryd.prog 26 #[.int .i64 n, .slice A m c] w (JoPost w n l) := by
  have H := Lib.hid h
  have HL := Lib.hid hl
  clear h hl
  go_enter Tryd.func26, Tryd.ntmps26
  go_wp2_with fail
  refine (check_any w n A m c l HL.out hlm H.out).mono ?_
  rintro e w1 ⟨rfl, hx1⟩
  have HX1 := Lib.hid hx1
  clear hx1
  by_cases h0 : (edgF n l).2 = 0
  · obtain ⟨k, rfl, hk0, hk60, hf⟩ := fine_ok h0
    have HF := Lib.hid hf
    have H0 := Lib.hid h0
    rw [h0, errOf_z]
    clear hf h0
    go_wp2_with fail
    refine (walked_any w1 k A m c l HL.out (H.out.ext HX1.out) HF.out hk0 hk60).mono ?_
    rintro e w2 ⟨kk, vE, vJ, w0, N, rfl, hb, hat, hx, hS⟩
    have HX2 : Hid (Ext w w2) := Ext.trans HX1.out (WdPost.ext hat hx hS)
    have hal := DF.walked_all hb (fine_loop HF.out) (fine_in HF.out) k (Nat.le_refl _)
    have hbd := DF.walked_bd hb (fine_loop HF.out) (fine_in HF.out) k (Nat.le_refl _)
    have hjo := DF.walked_jo hb (fine_loop HF.out) (fine_in HF.out) k (Nat.le_refl _)
    obtain ⟨s, hs⟩ : ∃ s, s = DF.walked N k k := ⟨_, rfl⟩
    rw [← hs] at hat hal hbd hjo
    have HJT := Lib.hid (jts_sorted hal hjo (fine_in HF.out))
    have hlen : s.jo.length ≤ 60 := by have := hbd.jo; have := hbd.un; omega
    have c6 : w2.cell? ⟨kk.W, 6, none⟩ = some vJ := hat.blk.cell 6
    have hjo2 := hat.jo
    rw [natsV_intsV] at hjo2
    have HJO := Lib.hid hjo2
    have hnE : Hid (∀ x, vJ.ownBlock = some x → w.heap.size ≤ x) := fun x hx' => by have := hat.nJ x hx'; have := (Ext.trans HX1.out hx).size; omega
    have HLEN : Hid ((sorted (s.jo.map fun (x : Nat) => (x : Int))).length = s.jo.length) := by rw [Hid, sorted_length, List.length_map]
    clear hat hal hbd hs hx hS hb hjo hjo2
    go_wp2_with fail
    refine (sort_any w2 vJ s.jo.length _ HJO.out (by omega)).mono ?_
    rintro e w3 ⟨rfl, hd, hc⟩
    have HX3 : Hid (Ext w w3) := ((Chg.of_below HX2.out).trans hc (fun i _ hi => hnE.out i hi)).below (Nat.le_refl _) (fun _ _ h => h)
    have HP : Hid (JoPost w k l (.returned (.tuple #[vJ, .nilIface])) w3) := by
      obtain ⟨A', c', rfl, hc'⟩ := own_slice3 hd
      refine ⟨HX3.out, .inr ⟨H0.out, k, A', c', sorted (s.jo.map fun (x : Nat) => (x : Int)), rfl, ?_, (IntsAt.of_own hd).1, ?_, ?_, HJT.out⟩⟩
      · rw [HLEN.out]
      · rw [HLEN.out]; exact hc'
      · rw [HLEN.out]; exact hlen
    clear hd hc c6 hnE
    go_wp2
    go_ret2
    exact HP.out
  · have HP : Hid (JoPost w n l (.returned (.tuple #[.slice none 0 0, errOf (edgF n l).2])) w1) := ⟨HX1.out, .inl ⟨h0, rfl⟩⟩
    rw [errOf_n h0] at HP ⊢
    clear h0
    go_wp2
    go_ret2
    exact HP.out
end Go.Proofs.YtakjakglkfhaaaaDoor

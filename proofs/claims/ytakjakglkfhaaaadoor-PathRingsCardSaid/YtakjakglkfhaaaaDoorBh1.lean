/-
  Plain facts for BridgeHolds: distances and ways, how many edges a node has, a bridge's end is a joint. No program in sight.
-/
import Derived.Test.YtakjakglkfhaaaaDoorBqs
import Derived.Test.YtakjakglkfhaaaaDoorPlc
namespace Go.Proofs.YtakjakglkfhaaaaDoor
open Go
set_option linter.unusedVariables false
namespace DF
open PD (g adj Ed adj_symm)

theorem dist_cn {n a : Nat} {l : List Ed} {d : List Int} (h : PD.IsDist n l a d) (hin : ∀ u v, adj l u v → v < n) {v : Nat} (hv : v < n) : 0 ≤ g d v ↔ Cn (adj l) a v := by
  constructor
  · intro h0
    have key : ∀ (t v : Nat), v < n → g d v = (t : Int) → Cn (adj l) a v := by
      intro t
      induction t with
      | zero => intro v hv ht; rw [h.src v hv (by omega)]; exact .refl _
      | succ t ih =>
        intro v hv ht
        obtain ⟨u, hu, hadj, he⟩ := h.prev v hv (by omega)
        exact .trans (ih u hu (by omega)) (.edge hadj)
    obtain ⟨t, ht⟩ := Int.eq_ofNat_of_zero_le h0
    exact key t v hv ht
  · intro c
    have := c.keeps (S := fun z => z < n ∧ 0 ≤ g d z) (fun u v e => by
      have hv := hin _ _ e
      have hu := hin _ _ (adj_symm e)
      exact ⟨fun w => ⟨hv, (h.edge u v hu hv e w.2).1⟩, fun w => ⟨hu, (h.edge v u hv hu (adj_symm e) w.2).1⟩⟩)
    exact (this.1 ⟨h.an, by rw [h.zero]; exact Int.le_refl _⟩).2
/-- A bridge's end that has another node beside is a joint. -/
theorem bridge_joint {l : List Ed} {u v x : Nat} (hl : ∀ z, ¬ adj l z z) (hno : ¬ Go2 l u v) (huv : adj l u v) (hux : adj l u x) (hx : x ≠ v) : Jt l u := by
  refine ⟨v, x, huv, hux, fun c => hno ?_⟩
  have c1 : Cn (Mn (adj l) u v) u x := .edge ⟨hux, fun w => hx w.2, fun w => hl u (w.1 ▸ huv)⟩
  have c2 : Cn (Mn (adj l) u v) x v := (Cn.symm c).mono fun p q e => ⟨e.1, fun w => e.2.1 w.1, fun w => e.2.2 w.2⟩
  exact .trans c1 c2
end DF
/-- Does an edge touch a node? -/
def tch (v : Nat) (e : AK.Ed) : Bool := decide (e.1 = (v : Int)) || decide (e.2 = (v : Int))
/-- How many edges touch it. -/
def dg (l : List AK.Ed) (v : Nat) : Nat := (l.filter (tch v)).length
theorem dg_snoc (l : List AK.Ed) (x : AK.Ed) (v : Nat) : dg (l ++ [x]) v = dg l v + if tch v x = true then 1 else 0 := by
  unfold dg
  rw [List.filter_append, List.length_append]
  congr 1
  by_cases q : tch v x = true
  · rw [if_pos q, List.filter_cons_of_pos q]; rfl
  · rw [if_neg q, List.filter_cons_of_neg q]; rfl
theorem dg_le (l : List AK.Ed) (v : Nat) : dg l v ≤ l.length := List.length_filter_le _ _
theorem dg_two {n : Nat} {l : List AK.Ed} {u v : Nat} (hok : ∀ x ∈ l, 0 ≤ x.1 ∧ x.1 < x.2 ∧ x.2 < (n : Int)) (hp : l.Pairwise ltE) (huv : PD.adj l u v) (hd : 1 < dg l u) : ∃ x, PD.adj l u x ∧ x ≠ v := by
  apply Classical.byContradiction
  intro no
  have hnd : (l.filter (tch u)).Nodup := (hp.sublist List.filter_sublist).imp fun {a b} q e => by subst e; unfold ltE at q; omega
  have all : ∀ e ∈ l.filter (tch u), e = DF.ek u v := fun e he => by
    obtain ⟨h1, h2⟩ := List.mem_filter.1 he
    have h3 := hok e h1
    obtain ⟨a, ha⟩ := Int.eq_ofNat_of_zero_le h3.1
    obtain ⟨b, hb⟩ := Int.eq_ofNat_of_zero_le (show 0 ≤ e.2 by omega)
    have hab : e = ((a : Int), (b : Int)) := Prod.ext ha hb
    subst hab
    simp only [tch, Bool.or_eq_true, decide_eq_true_eq] at h2
    simp only at h3
    unfold DF.ek
    rcases h2 with h2 | h2
    · have : a = u := by omega
      subst this
      have : b = v := Classical.byContradiction fun w => no ⟨b, .inl h1, w⟩
      subst this
      rw [Nat.min_eq_left (by omega), Nat.max_eq_right (by omega)]
    · have : b = u := by omega
      subst this
      have : a = v := Classical.byContradiction fun w => no ⟨a, .inr h1, w⟩
      subst this
      rw [Nat.min_eq_right (by omega), Nat.max_eq_left (by omega)]
  unfold dg at hd
  match hF : l.filter (tch u), hd with
  | x :: y :: r, _ =>
    rw [hF] at all hnd
    have e1 := all x (by simp)
    have e2 := all y (by simp)
    simp at hnd
    exact hnd.1.1 (e1.trans e2.symm)
theorem bh_ex {x : List AK.Ed} (h : BrsOf 3 [(0, 1), (1, 2)] x) : x.length = 2 := by
  have a01 : PD.adj [(0, 1), (1, 2)] 0 1 := .inl (by simp)
  have a12 : PD.adj [(0, 1), (1, 2)] 1 2 := .inl (by simp)
  have ex : ∀ u v : Nat, PD.adj [(0, 1), (1, 2)] u v → (u = 0 ∧ v = 1) ∨ (u = 1 ∧ v = 0) ∨ (u = 1 ∧ v = 2) ∨ (u = 2 ∧ v = 1) := fun u v e => by
    have e' : ((u : Int), (v : Int)) ∈ [((0 : Int), (1 : Int)), (1, 2)] ∨ ((v : Int), (u : Int)) ∈ [((0 : Int), (1 : Int)), (1, 2)] := e
    simp at e'
    omega
  have n1 : ¬ DF.Go2 [(0, 1), (1, 2)] 0 1 := fun c => by
    have := c.keeps (S := fun z => z = 0) (fun u v e => by have := ex u v e.1; have := e.2; omega)
    have := this.1 rfl
    omega
  have n2 : ¬ DF.Go2 [(0, 1), (1, 2)] 1 2 := fun c => by
    have := c.keeps (S := fun z => z = 2) (fun u v e => by have := ex u v e.1; have := e.2; omega)
    have := this.2 rfl
    omega
  have e : x = [(0, 1), (1, 2)] := by
    refine rises_ext h.2.1 (by simp [ltE]) fun e => ?_
    constructor
    · intro he
      obtain ⟨c, d, rfl, hadj⟩ := h.1.edm e he
      have : (c = 0 ∧ d = 1) ∨ (c = 1 ∧ d = 0) ∨ (c = 1 ∧ d = 2) ∨ (c = 2 ∧ d = 1) := ex c d hadj
      rcases this with ⟨rfl, rfl⟩ | ⟨rfl, rfl⟩ | ⟨rfl, rfl⟩ | ⟨rfl, rfl⟩ <;> simp [DF.ek]
    · intro he
      simp at he
      rcases he with rfl | rfl
      · exact (h.1.edb 0 1 a01).2 n1
      · exact (h.1.edb 1 2 a12).2 n2
  rw [e]; rfl
end Go.Proofs.YtakjakglkfhaaaaDoor

/-
  Towards TourPlays: the forest beside the reference's list; the reference's Node; parts and trees. Conditions: as each says.
-/
import Derived.Test.YtckcbfnffmohgaaGreatBs12
import Derived.Test.YtckcbfnffmohgaaGreatBs16
import Derived.Test.YtckcbfnffmohgaaGreatBs31
import Derived.Test.YtckcbfnffmohgaaGreatBs17
namespace Go.Proofs.YtckcbfnffmohgaaGreat
open Go Go.RowKit SQ TR DF PD PT
set_option linter.unusedVariables false

theorem fo_inn {n : Nat} {E : List AK.Ed} (h : Fo n E) : Inn n E := fun x hx => by have := h.ok x hx; omega
theorem fo_prs {n : Nat} {E : List AK.Ed} (h : Fo n E) (x y : Nat) : adj E x y ↔ (x, y) ∈ prs E ∨ (y, x) ∈ prs E := by
  have key : ∀ x y : Nat, ((x : Int), (y : Int)) ∈ E ↔ (x, y) ∈ prs E := fun x y => by
    unfold prs
    rw [List.mem_map]
    constructor
    · intro h; exact ⟨_, h, by simp⟩
    · rintro ⟨z, hz, e⟩
      have := h.ok z hz
      have e1 := congrArg Prod.fst e
      have e2 := congrArg Prod.snd e
      simp only at e1 e2
      have : z = ((x : Int), (y : Int)) := Prod.ext (by simp only; omega) (by simp only; omega)
      rwa [← this]
  unfold adj
  rw [key, key]
theorem parts_len {n : Nat} {es : List (Nat × Nat)} {p : List Nat} (h : IsParts n es p) : ∀ x, x < n → ∃ v, p[x]? = some v := fun x hx => by obtain ⟨v, hv, _⟩ := h.get hx; exact ⟨v, hv⟩
theorem parts_cn {n : Nat} {E : List AK.Ed} {p : List Nat} (h : Fo n E) (hp : IsParts n (prs E) p) {x y v u : Nat} (hx : p[x]? = some v) (hy : p[y]? = some u) : v = u ↔ Cn (adj E) x y :=
  (hp.rel hx hy).trans (con_iff (fo_prs h) x y)
theorem nrow_cell {w : World} {g c n x v : Nat} {p : List Nat} (h : NRow w (.slice (some ⟨g, 0, none⟩) n c) n p) (hx : p[x]? = some v) (hn : x < n) : w.cell? ⟨g, x, none⟩ = some (.int .i64 (v : Nat)) := by
  unfold NRow at h
  rw [h.cellAt x (by omega)]
  exact natv_get hx
theorem out_cut {E : List AK.Ed} {x : AK.Ed} {k : Nat} (hup : E.Pairwise ltE) (hk : E[k]? = some x) : E.eraseIdx k = cutE x E := by
  have nd := rises_nodup hup
  refine rises_ext (List.Pairwise.sublist (List.eraseIdx_sublist ..) hup) (hup.filter _) fun y => ?_
  rw [cutE_mem]
  have hkl := (List.getElem?_eq_some_iff.1 hk).1
  have hkx := (List.getElem?_eq_some_iff.1 hk).2
  constructor
  · intro hy
    refine ⟨List.mem_of_mem_eraseIdx hy, fun e => ?_⟩
    subst e
    rw [List.mem_eraseIdx_iff_getElem?] at hy
    obtain ⟨i, hne, hi⟩ := hy
    have hil := (List.getElem?_eq_some_iff.1 hi).1
    have : E[i] = E[k] := by rw [hkx]; exact (List.getElem?_eq_some_iff.1 hi).2
    exact hne ((List.getElem_inj nd).1 this)
  · rintro ⟨hy, hne⟩
    rw [List.mem_eraseIdx_iff_getElem?]
    obtain ⟨i, hi⟩ := List.getElem?_of_mem hy
    exact ⟨i, fun e => hne (by subst e; rw [hi] at hk; exact Option.some.inj hk), hi⟩
/-- A forest of the call's own. -/
structure TcS (w wr : World) (F : FoP) (n N : Nat) (E : List AK.Ed) : Prop where
  at_ : FoAt wr F n N E
  ext : Ext w wr
  new : w.heap.size ≤ F.fb ∧ ∀ k, F.S k → w.heap.size ≤ k
/-- The forest, and the reference's list beside it. -/
structure TpS (w wr : World) (F : FoP) (n N : Nat) (E : List AK.Ed) (A : Option Addr) (c : Nat) : Prop where
  s : TcS w wr F n N E
  ed : EdsAt wr A E
  nd : E ≠ [] → ∀ x, A = some x → ¬ F.S x.block
  cap : E.length ≤ c ∧ c ≤ maxLen
section
variable {w wr w' w4 : World} {F : FoP} {n N N' : Nat} {E E' L : List AK.Ed} {A A4 : Option Addr} {c c4 : Nat}
theorem TcS.moved (h : TcS w wr F n N E) (hx : Ext wr w') : TcS w w' F n N E := ⟨h.at_.ext hx, h.ext.trans hx, h.new⟩
theorem TcS.step (h : TcS w wr F n N E) (h' : FoAt w' F n N' E') (hc : Chg F.S wr w') : TcS w w' F n N' E' :=
  ⟨h', ((Chg.of_below h.ext).trans hc (fun i _ hi => h.new.2 i hi)).below (Nat.le_refl _) (fun _ _ h => h), h.new⟩
theorem TcS.mono (h : TcS w wr F n N E) (hN : N ≤ N') : TcS w wr F n N' E := ⟨h.at_.mono hN, h.ext, h.new⟩
theorem TpS.moved (h : TpS w wr F n N E A c) (hx : Ext wr w') : TpS w w' F n N E A c := ⟨h.s.moved hx, h.ed.ext hx, h.nd, h.cap⟩
theorem TpS.mono (h : TpS w wr F n N E A c) (hN : N ≤ N') : TpS w wr F n N' E A c := ⟨h.s.mono hN, h.ed, h.nd, h.cap⟩
/-- Another list is there; then the forest is turned. -/
theorem TpS.put (h : TpS w wr F n N E A c) (hx : Ext wr w4) (hd : DRow w4 (.slice A4 L.length c4) L) (hn : ∀ j, (Value.slice A4 L.length c4).ownBlock = some j → wr.heap.size ≤ j) (h' : FoAt w' F n N' L) (hc : Chg F.S w4 w') : TpS w w' F n N' L A4 c4 := by
  have nd : ∀ x, A4 = some x → ¬ F.S x.block := fun x hA hk => by
    have h1 := h.s.at_.lt.2 _ hk
    have h2 := hn x.block (by subst hA; rfl)
    omega
  have hed := (DRow.eds hd rfl).1
  refine ⟨(h.s.moved hx).step h' hc, hed.chg hc (fun _ x hA => nd x hA), fun _ => nd, (DRow.eds hd rfl).2, ?_⟩
  unfold DRow at hd
  exact own_capmax hd
theorem TpS.turn (h : TpS w wr F n N E A c) (h' : FoAt w' F n N' E) (hc : Chg F.S wr w') : TpS w w' F n N' E A c :=
  ⟨h.s.step h' hc, h.ed.chg hc h.nd, h.nd, h.cap⟩
end
theorem comp_step {n j a : Nat} {E : List AK.Ed} : ((List.range (j + 1)).filter fun u => by classical exact decide (Cn (adj E) a u)).map (fun (x : Nat) => (x : Int)) = ((List.range j).filter fun u => by classical exact decide (Cn (adj E) a u)).map (fun (x : Nat) => (x : Int)) ++ (by classical exact if Cn (adj E) a j then [(j : Int)] else []) := by
  rw [List.range_succ, List.filter_append, List.map_append]
  congr 1
  by_cases h : Cn (adj E) a j
  · simp [h]
  · simp [h]
noncomputable def compTo (E : List AK.Ed) (a j : Nat) : List Int := ((List.range j).filter fun u => by classical exact decide (Cn (adj E) a u)).map fun (x : Nat) => (x : Int)
theorem compTo_yes {E : List AK.Ed} {a j : Nat} (h : Cn (adj E) a j) : compTo E a (j + 1) = compTo E a j ++ [(j : Int)] := by
  unfold compTo; rw [comp_step (n := 0)]; congr 1; simp [h]
theorem compTo_no {E : List AK.Ed} {a j : Nat} (h : ¬ Cn (adj E) a j) : compTo E a (j + 1) = compTo E a j := by
  unfold compTo; rw [comp_step (n := 0)]; simp [h]
theorem compTo_all (n : Nat) (E : List AK.Ed) (a : Nat) : compTo E a n = comp n E a := rfl
theorem compTo_len (E : List AK.Ed) (a j : Nat) : (compTo E a j).length ≤ j := by
  unfold compTo
  rw [List.length_map]
  exact Nat.le_trans (List.length_filter_le _ _) (by simp)
theorem comp_push {w4 wr w5 : World} {E : List AK.Ed} {x j g c c2 nq : Nat} {A2 : Option Addr} {o : Obj}
    (h : wr.ownsRow 0 3 1 (.slice A2 (compTo E x j).length c2) (compTo E x j).length (intsV (compTo E x j)) ∧ Ext w4 wr ∧ ∀ i, (Value.slice A2 (compTo E x j).length c2).ownBlock = some i → w4.heap.size ≤ i) (hy : compTo E x (j + 1) = compTo E x j ++ [(j : Int)])
    (ho : w5.ownsRow 0 3 1 (.slice (some ⟨g, 0, none⟩) ((compTo E x j).length + 1) c) ((compTo E x j).length + 1) (intsV (compTo E x j) ++ [.int .i64 j])) (hc : Chg (fun k => (Value.slice A2 (compTo E x j).length c2).ownBlock = some k) ((wr.drewN nq).alloc o) w5)
    (hat : (Value.slice A2 (compTo E x j).length c2).ownBlock = some g ∨ g = ((wr.drewN nq).alloc o).heap.size) :
    w5.ownsRow 0 3 1 (.slice (some ⟨g, 0, none⟩) (compTo E x (j + 1)).length c) (compTo E x (j + 1)).length (intsV (compTo E x (j + 1))) ∧ Ext w4 w5 ∧ ∀ i, (Value.slice (some ⟨g, 0, none⟩) (compTo E x (j + 1)).length c).ownBlock = some i → w4.heap.size ≤ i := by
  obtain ⟨h1, h2, h3⟩ := h
  have hx : Ext w4 ((wr.drewN nq).alloc o) := (h2.trans (Ext.drewN wr nq)).trans (Ext.alloc _ o)
  rw [hy]
  refine ⟨?_, ((Chg.of_below hx).trans hc (fun i _ hi => h3 i hi)).below (Nat.le_refl _) (fun _ _ h => h), fun i hi => ?_⟩
  · have : intsV (compTo E x j ++ [(j : Int)]) = intsV (compTo E x j) ++ [.int .i64 j] := by simp [intsV]
    rw [this, List.length_append]
    exact ho
  · have : g = i := by simpa [Value.ownBlock] using hi
    subst this
    rcases hat with hat | hat
    · exact h3 _ hat
    · have := hx.size; simp at hat; simp at this; omega
end Go.Proofs.YtckcbfnffmohgaaGreat

/-
  Towards graph's mend: a map of nodes; what becomes of the graph when an edge goes up, when one is found. Conditions: the graph lies in memory as 'GrM' says.
-/
import Derived.Test.YtlcnoihmhaaekaaBs33
namespace Go.Proofs.Ytlcnoihmhaaekaa
open Go Go.RowKit SQ TR DF PD
set_option linter.unusedVariables false

theorem comp_sz (n : Nat) (E : List AK.Ed) (a : Nat) : (comp n E a).length = GM.sz n (adj E) a := by
  unfold comp GM.sz
  rw [List.length_map]
  generalize (fun u => by classical exact decide (Cn (adj E) a u) : Nat → Bool) = p
  have : ∀ m, ((List.range m).filter p).length = PD.cnt p m := by
    intro m
    induction m with
    | zero => rfl
    | succ m ih =>
      rw [List.range_succ, List.filter_append, List.length_append, ih]
      show _ = PD.cnt p m + if p m = true then 1 else 0
      cases h : p m <;> simp [h]
  exact this n
theorem gcomp_len (n : Nat) (E : List AK.Ed) (a : Nat) : (comp n E a).length ≤ n := by
  unfold comp
  rw [List.length_map]
  exact Nat.le_trans (List.length_filter_le _ _) (by simp)
theorem EdgesPost.use {w w' : World} {E : List AK.Ed} {e : Ending} (h : EdgesPost w E e w') : ∃ A c, e = .returned (.slice A E.length c) ∧ EdsAt w' A E ∧ Ext w w' ∧ E.length ≤ c ∧ ∀ x, A = some x → w.heap.size ≤ x.block := by
  obtain ⟨A, c, rfl, h1, h2, h3⟩ := h
  refine ⟨A, c, rfl, (DRow.eds h1 rfl).1, h2, (DRow.eds h1 rfl).2, fun x hx => ?_⟩
  rcases h1.2 with ⟨h4, _⟩ | ⟨g', c', cur, h4, _⟩
  · simp at h4; rw [h4.1] at hx; cases hx
  · simp only [Value.slice.injEq] at h4
    have h5 := h3 g' (by rw [h4.1]; simp [Value.ownBlock])
    rw [h4.1] at hx
    injection hx with hx
    subst hx
    exact h5
theorem MemPost.use {w w' : World} {xs : List Int} {e : Ending} (h : MemPost w xs e w') : ∃ A c, e = .returned (.tuple #[.slice A xs.length c, .nilIface]) ∧ IntsAt w' A xs ∧ Ext w w' ∧ xs.length ≤ c := by
  obtain ⟨A, c, rfl, h1, h2, h3⟩ := h
  refine ⟨A, c, rfl, (IntsAt.of_own h1).1, h2, ?_⟩
  rcases Nat.eq_zero_or_pos xs.length with h0 | h0
  · omega
  · obtain ⟨g, cap, hv, hc, _⟩ := own_form h1 h0
    simp only [Value.slice.injEq] at hv
    omega
/-- A map in which nodes are marked. -/
def InAt (w : World) (mb : Nat) (S : List Int) : Prop := ∃ N s m, N ≤ S.length ∧ VM kI w mb N s m ∧ ∀ z, kI.ok z → m z = if z ∈ S then some (.int .i64 1) else none
section
variable {w w' w5 W : World} {mb : Nat} {S : List Int}
theorem InAt.made (w : World) : InAt (w.alloc (.map #[] 0)) w.heap.size [] := ⟨0, 0, _, Nat.le_refl _, VM.made kI w, fun z _ => by simp⟩
theorem InAt.lt (h : InAt w mb S) : mb < w.heap.size := by obtain ⟨N, s, m, h0, h1, h2⟩ := h; exact h1.lt
theorem InAt.chg {T : Nat → Prop} (h : InAt w mb S) (hc : Chg T w w') (hn : ¬ T mb) : InAt w' mb S := by
  obtain ⟨N, s, m, h0, h1, h2⟩ := h; exact ⟨N, s, m, h0, h1.chg hc hn, h2⟩
theorem InAt.ext (h : InAt w mb S) (hx : Ext w w') : InAt w' mb S := h.chg (Chg.of_below hx) (by have := h.lt; omega)
theorem zeroIntG (w : World) : (zeroValue 3).run Try.prog w = .ok (.int .i64 0) w := by kernel_rfl
theorem InAt.look (h : InAt w mb S) (z : Int) (hz : kI.ok z) {v : Int} (hv : v = if z ∈ S then 1 else 0) : (Instr.lookup 116 (.map (some mb)) (.int .i64 z) false).run Try.prog w = .ok (.int .i64 v) w := by
  obtain ⟨N, s, m, h0, h1, h2⟩ := h
  have : (Instr.lookup 116 (.map (some mb)) (.int .i64 z) false).run Try.prog w = _ := h1.look Try.underlying116 (zeroIntG _) z hz
  rw [this, h2 z hz, hv]
  by_cases q : z ∈ S
  · rw [if_pos q, if_pos q]; rfl
  · rw [if_neg q, if_neg q]; rfl
theorem InAt.put (h : InAt w mb S) (hl : S.length < 1000000) (z : Int) (hz : kI.ok z) : ∃ w', (Instr.mapUpdate 116 (.map (some mb)) (.int .i64 z) (.int .i64 1)).run Try.prog w = .ok () w' ∧ InAt w' mb (S ++ [z]) ∧ Chg (fun k => k = mb) w w' := by
  obtain ⟨N, s, m, h0, h1, h2⟩ := h
  obtain ⟨w2, hr, hv, hc, hs⟩ := h1.put Try.underlying116 (by omega) z hz (.int .i64 1)
  refine ⟨w2, hr, ⟨N + 1, _, _, by simp; omega, hv, fun y hy => ?_⟩, hc⟩
  unfold updV
  by_cases e : y = z
  · subst e; simp
  · rw [if_neg e, h2 y hy]; simp [e]
theorem okI_of {z : Int} (h : -1000 ≤ z ∧ z ≤ 1000000) : kI.ok z := WalkArith.wf_i64 (by omega)
end
section
variable {w w' w5 W : World} {G G' : GrP} {n N N' i : Nat} {A L : List AK.Ed} {f f' fk : AK.Ed → GM.St} {Es : Nat → List AK.Ed} {F : FoP} {x : AK.Ed} {S : Nat → Bool}
theorem GrM.congrF (h : GrM w G n N A f Es) (hf : ∀ x ∈ A, f' x = f x) : GrM w G n N A f' Es := by
  obtain ⟨me, m1, m2⟩ := h.edges
  refine ⟨h.blk, h.hn, h.row, h.pos, h.fo, ⟨me, m1, fun x hx => ?_⟩, h.ap, h.ap2⟩
  rw [m2 x hx]
  by_cases q : x ∈ A
  · rw [if_pos q, if_pos q, hf x q]
  · rw [if_neg q, if_neg q]
/-- An edge of the lesser tree goes up. -/
theorem GrM.raise (h : GrM w G n N A (GM.upL f i S L) (GM.lvl (GM.upL f i S L) A)) (hup : A.Pairwise ltE) (hL : ∀ y ∈ L, (f y).tr = true) (hxA : x ∈ A) (hx : okE x) (htr : (f x).tr = true) (hxL : x ∉ L) (hxS : (f x).lv = i ∧ S x.1.toNat = true ∧ S x.2.toNat = true)
    (hF : G.Fs[i + 1]? = some F) (hf : FoAt w5 F n (N + 1) (putE x (GM.lvl (GM.upL f i S L) A (i + 1)))) (hc : Chg F.S w w5) (hW : Ext w5 W) (hN : N + 1 < 1000000) :
    ∃ W2, (Instr.mapUpdate 82 (.map (some G.eb)) (edV x) (.agg #[.int .i64 ((i : Int) + 1), .bool true])).run Try.prog W = .ok () W2 ∧ GrM W2 G n (N + 2) A (GM.upL f i S (L ++ [x])) (GM.lvl (GM.upL f i S (L ++ [x])) A) ∧ Chg G.S w W2 := by
  have h5 := h.turn hF hf (by omega) hc
  obtain ⟨W2, hr, hM2, hc2, hsz⟩ := (h5.ext hW).write hN x hx ⟨i + 1, true⟩
  rw [if_pos hxA, ← GM.upL_yes hxS] at hM2
  have hc1 : Chg G.S w w5 := hc.mono fun k _ hk => .inr (.inr (.inr ⟨_, F, hF, hk⟩))
  have hL' : ∀ y ∈ L ++ [x], (f y).tr = true := fun y hy => by
    rcases List.mem_append.1 hy with q | q
    · exact hL y q
    · rw [List.mem_singleton.1 q]; exact htr
  refine ⟨W2, hr, hM2.congr fun j hj => ?_, (hc1.trans (Chg.of_below hW) (fun i hi hs => by have := hc1.size; omega)).trans hc2 (fun i _ hi => .inr (.inl hi))⟩
  by_cases e : j = i + 1
  · subst e; rw [if_pos rfl]; exact GM.lvl_upL_snoc hup hL hxA htr hxL hxS
  · rw [if_neg e, GM.lvl_upL_ne hL' e, GM.lvl_upL_ne hL e]
theorem GrM.write' (h : GrM w G n N A fk Es) (hxA : x ∈ A) (hx : okE x) (hN : N < 1000000) (hW : Ext w W) (s : GM.St) :
    ∃ W2, (Instr.mapUpdate 82 (.map (some G.eb)) (edV x) (stV s)).run Try.prog W = .ok () W2 ∧ GrM W2 G n (N + 1) A (GM.updS fk x s) Es ∧ Chg G.S w W2 ∧ Chg G.S W W2 := by
  obtain ⟨W2, hr, hM2, hc2, hsz⟩ := (h.ext hW).write hN x hx s
  rw [if_pos hxA] at hM2
  have hc1 : Chg G.S w W := Chg.new hW _
  exact ⟨W2, hr, hM2, hc1.trans hc2 (fun i _ hi => .inr (.inl hi)), hc2.mono (fun i _ hi => .inr (.inl hi))⟩
end
/-- One of two, and the other. -/
def Pick2 (a b c d : Nat) : Prop := (c = a ∧ d = b) ∨ (c = b ∧ d = a)
theorem gints_at {w : World} {A : Option Addr} {xs : List Int} {i : Nat} (h : IntsAt w A xs) (hi : i < xs.length) : ∃ b off, A = some ⟨b, off, none⟩ ∧ w.cell? ⟨b, off + i, none⟩ = some (.int .i64 (xs.getD i 0)) := by
  rcases h with h | ⟨b, off, rfl, hb, hc⟩
  · subst h; simp at hi
  · exact ⟨b, off, rfl, hc i _ (by rw [List.getElem?_eq_getElem hi]; simp [List.getD, List.getElem?_eq_getElem hi])⟩
theorem geds_at {w : World} {A : Option Addr} {E : List AK.Ed} {i : Nat} (h : EdsAt w A E) (hi : i < E.length) : ∃ b off x, A = some ⟨b, off, none⟩ ∧ E[i]? = some x ∧ w.cell? ⟨b, off + i * 2, none⟩ = some (.int .i64 x.1) ∧ w.cell? ⟨b, off + i * 2 + 1, none⟩ = some (.int .i64 x.2) := by
  rcases h with h | ⟨b, off, rfl, hb, hc⟩
  · subst h; simp at hi
  · have := List.getElem?_eq_getElem hi
    exact ⟨b, off, _, rfl, this, (hc i _ this).1, (hc i _ this).2⟩
theorem Ext.chg_new {w w1 w2 : World} {T : Nat → Prop} (h : Ext w w1) (hc : Chg T w1 w2) (hT : ∀ k, T k → w.heap.size ≤ k) : Ext w w2 :=
  ((Chg.of_below h).trans hc (fun i _ hi => hT i hi)).below (Nat.le_refl _) (fun _ _ h => h)
/-- The nodes marked, as a test. -/
def inS (X : List Int) (v : Nat) : Bool := decide ((v : Int) ∈ X)
theorem side_of {n i a b c d : Nat} {A : List AK.Ed} {f : AK.Ed → GM.St} (hp : Pick2 a b c d) (ha : a < n) (hb : b < n) : GM.Side n (adj (GM.lvl f A i)) a b (inS (comp n (GM.lvl f A i) c)) := by
  refine ⟨c, hp.imp (·.1) (·.1), ?_, fun x hx => ?_⟩
  · rcases hp with ⟨rfl, _⟩ | ⟨rfl, _⟩ <;> assumption
  · unfold inS
    rw [decide_eq_true_eq, comp_mem]
    exact ⟨fun ⟨u, h1, h2, h3⟩ => by have : x = u := by omega
                                     subst this; exact h2, fun h => ⟨x, hx, h, rfl⟩⟩
/-- What is known when the lesser tree begins to go up. -/
structure MdC (n t : Nat) (A : List AK.Ed) (f : AK.Ed → GM.St) (a b i : Nat) (X : List Int) : Prop where
  bok : GM.BOk n t A f a b i
  side : GM.Side n (adj (GM.lvl f A i)) a b (inS X)
  half : ∃ c, (c = a ∨ c = b) ∧ c < n ∧ (∀ x, x < n → (inS X x = true ↔ Cn (adj (GM.lvl f A i)) c x)) ∧ GM.sz n (adj (GM.lvl f A i)) c * 2 ≤ GM.sz n (Ad (adj (GM.lvl f A i)) a b) c
theorem mdC_of {n t i a b c d : Nat} {A : List AK.Ed} {f : AK.Ed → GM.St} (h : GM.BOk n t A f a b i) (hp : Pick2 a b c d) (ha : a < n) (hb : b < n) (hle : (comp n (GM.lvl f A i) c).length ≤ (comp n (GM.lvl f A i) d).length) : MdC n t A f a b i (comp n (GM.lvl f A i) c) := by
  have hs := side_of (f := f) (A := A) (i := i) hp ha hb
  refine ⟨h, hs, c, hp.imp (·.1) (·.1), ?_, fun x hx => ?_, ?_⟩
  · rcases hp with ⟨rfl, _⟩ | ⟨rfl, _⟩ <;> assumption
  · unfold inS
    rw [decide_eq_true_eq, comp_mem]
    exact ⟨fun ⟨u, h1, h2, h3⟩ => by have : x = u := by omega
                                     subst this; exact h2, fun h => ⟨x, hx, h, rfl⟩⟩
  · rw [comp_sz, comp_sz] at hle
    exact GM.half h hp hle
theorem GM_base_mono {n t t' : Nat} {A : List AK.Ed} {f : AK.Ed → GM.St} (h : GM.Base n t A f) (ht : t ≤ t') : GM.Base n t' A f := ⟨h.ok, h.up, h.fs, fun x hx => Nat.lt_of_lt_of_le (h.top x hx) ht⟩
theorem MdC.mono {n t t' i a b : Nat} {A : List AK.Ed} {f : AK.Ed → GM.St} {X : List Int} (h : MdC n t A f a b i X) (ht : t ≤ t') : MdC n t' A f a b i X :=
  ⟨⟨GM_base_mono h.bok.toBase ht, h.bok.na, h.bok.hi, h.bok.lo, h.bok.smh, h.bok.sml⟩, h.side, h.half⟩
/-- The loop over the tree's edges. -/
def Up1 (w5 wr : World) (G' : GrP) (n N : Nat) (A : List AK.Ed) (f : AK.Ed → GM.St) (i : Nat) (X : List Int) (L : List AK.Ed) : Prop := GrM wr G' n N A (GM.upL f i (inS X) L) (GM.lvl (GM.upL f i (inS X) L) A) ∧ Chg G'.S w5 wr
theorem Up1.start {w5 : World} {G' : GrP} {n N i : Nat} {A T : List AK.Ed} {f : AK.Ed → GM.St} {X : List Int} (h : GrM w5 G' n N A f (GM.lvl f A)) : Up1 w5 w5 G' n N A f i X (T.take 0) := by
  unfold Up1
  rw [List.take_zero, GM.upL_nil]
  exact ⟨h, Chg.refl _ _⟩
theorem inS_of {X : List Int} {v : Nat} : inS X v = true ↔ (v : Int) ∈ X := by unfold inS; rw [decide_eq_true_eq]
theorem Up1.no {w5 wr w7 : World} {G' : GrP} {n N N' i : Nat} {A L : List AK.Ed} {f : AK.Ed → GM.St} {X : List Int} {x : AK.Ed} (h : Up1 w5 wr G' n N A f i X L) (hx : Ext wr w7) (hN : N ≤ N') (hno : ¬ ((f x).lv = i ∧ inS X x.1.toNat = true ∧ inS X x.2.toNat = true)) : Up1 w5 w7 G' n N' A f i X (L ++ [x]) := by
  unfold Up1
  rw [GM.upL_no hno]
  exact ⟨(h.1.ext hx).mono hN, h.2.trans (Chg.of_below hx) fun i hi hs => by have := h.2.size; omega⟩
/-- The loop over the other edges. -/
def Ri1 (w5 wr : World) (G' : GrP) (n N : Nat) (A : List AK.Ed) (f1 : AK.Ed → GM.St) (a b i : Nat) (X : List Int) (k : Nat) : Prop := ∃ fk, GM.M2 n G'.Fs.length A f1 a b i (inS X) k fk ∧ GrM wr G' n N A fk (GM.lvl fk A) ∧ Chg G'.S w5 wr
theorem Chg.step {S : Nat → Prop} {w5 wr w7 : World} (h : Chg S w5 wr) (hc : Chg S wr w7) : Chg S w5 w7 := h.trans hc fun _ _ h => h
theorem Chg.stepE {S : Nat → Prop} {w5 wr w7 : World} (h : Chg S w5 wr) (hx : Ext wr w7) : Chg S w5 w7 := h.trans (Chg.of_below hx) fun i hi hs => by have := h.size; omega
theorem runFieldS (l : Int) (t : Bool) (w : World) : (Instr.field 87 (.agg #[.int .i64 l, .bool t]) 0).run Try.prog w = .ok (.int .i64 l) w := by kernel_rfl
theorem Up1.done {w5 wr : World} {G' : GrP} {n N i : Nat} {A : List AK.Ed} {f : AK.Ed → GM.St} {X : List Int} (h : Up1 w5 wr G' n N A f i X (GM.lvl f A 0)) : GrM wr G' n N A (GM.upT f A i (inS X)) (GM.lvl (GM.upT f A i (inS X)) A) ∧ Chg G'.S w5 wr := by
  have hf : ∀ x ∈ A, GM.upT f A i (inS X) x = GM.upL f i (inS X) (GM.lvl f A 0) x := fun x hx => (GM.upL_all x hx).symm
  exact ⟨(h.1.congrF hf).congr fun j _ => GM.lvl_congr hf j, h.2⟩
theorem Ri1.start {w : World} {G' : GrP} {n N i a b : Nat} {A : List AK.Ed} {f1 : AK.Ed → GM.St} {X : List Int} (h : GrM w G' n N A f1 (GM.lvl f1 A)) (hb : GM.BOk n G'.Fs.length A f1 a b i) : Ri1 w w G' n N A f1 a b i X 0 := ⟨f1, .start hb, h, Chg.refl _ _⟩
/-- What is known of the edge in question. -/
structure Ri2 (w5 wr : World) (G' : GrP) (n N : Nat) (A : List AK.Ed) (f1 fk : AK.Ed → GM.St) (a b i : Nat) (X : List Int) (k u v : Nat) : Prop where
  m : GM.M2 n G'.Fs.length A f1 a b i (inS X) k fk
  g : GrM wr G' n N A fk (GM.lvl fk A)
  c : Chg G'.S w5 wr
  x : A[k]? = some ((u : Int), (v : Int))
  ek : AK.ek u v = ((u : Int), (v : Int))
  lt : u < v ∧ v < n
theorem Ri1.at_ {w5 wr : World} {G' : GrP} {n N i a b k : Nat} {A : List AK.Ed} {f1 : AK.Ed → GM.St} {X : List Int} (h : Ri1 w5 wr G' n N A f1 a b i X k) {x : AK.Ed} (hx : A[k]? = some x) : ∃ (fk : AK.Ed → GM.St) (u v : Nat), x = ((u : Int), (v : Int)) ∧ Ri2 w5 wr G' n N A f1 fk a b i X k u v := by
  obtain ⟨fk, h1, h2, h3⟩ := h
  obtain ⟨u, v, e1, e2, rfl, e4⟩ := GM.ek_form (h1.ok.ok _ (List.mem_of_getElem? hx))
  exact ⟨fk, u, v, rfl, h1, h2, h3, hx, e4, e1, e2⟩
section
variable {w5 wr w7 : World} {G' : GrP} {n N N' i a b k u v : Nat} {A : List AK.Ed} {f1 fk : AK.Ed → GM.St} {X : List Int}
theorem Ri2.mem (h : Ri2 w5 wr G' n N A f1 fk a b i X k u v) : ((u : Int), (v : Int)) ∈ A := List.mem_of_getElem? h.x
theorem Ri2.ok (h : Ri2 w5 wr G' n N A f1 fk a b i X k u v) : okE ((u : Int), (v : Int)) := by
  have := h.g.hn; have := h.lt
  exact okE_of (by simp only; omega) (by simp only; omega)
theorem Ri2.skip (h : Ri2 w5 wr G' n N A f1 fk a b i X k u v) (hx : Ext wr w7) (hN : N ≤ N') (hs : (fk ((u : Int), (v : Int))).tr = true ∨ (fk ((u : Int), (v : Int))).lv ≠ i ∨ (inS X u = false ∧ inS X v = false)) : Ri1 w5 w7 G' n N' A f1 a b i X (k + 1) :=
  ⟨fk, h.m.skip h.x (by simpa using hs), (h.g.ext hx).mono hN, h.c.stepE hx⟩
theorem Ri2.rise (h : Ri2 w5 wr G' n N A f1 fk a b i X k u v) (hx : Ext wr w7) (hN : N < 1000000) (ht : (fk ((u : Int), (v : Int))).tr = false) (hl : (fk ((u : Int), (v : Int))).lv = i) (hs : inS X u = true ∧ inS X v = true)
    (hin : ∀ x y, x < n → y < n → inS X x = true → inS X y = true → Cn (adj (GM.lvl f1 A (i + 1))) x y) (hti : i + 1 < G'.Fs.length) :
    ∃ W2, (Instr.mapUpdate 82 (.map (some G'.eb)) (.agg #[.int .i64 u, .int .i64 v]) (.agg #[.int .i64 ((i : Int) + 1), .bool false])).run Try.prog w7 = .ok () W2 ∧ Ri1 w5 W2 G' n (N + 1) A f1 a b i X (k + 1) := by
  obtain ⟨W2, hr, hM, hc, hc'⟩ := h.g.write' h.mem h.ok hN hx ⟨i + 1, false⟩
  exact ⟨W2, hr, _, h.m.rise h.x ht hl (by simpa using hs) hin hti, hM.congr fun j _ => GM.lvl_nt ht rfl j, h.c.step hc⟩
/-- An edge is found: it is linked level by level. -/
structure Ri3 (w5 wr : World) (G' : GrP) (n N : Nat) (A : List AK.Ed) (f1 fk f2 : AK.Ed → GM.St) (i u v j : Nat) : Prop where
  g : GrM wr G' n N A f2 (fun q => if q < j then putE (AK.ek u v) (GM.lvl fk A q) else GM.lvl fk A q)
  c : Chg G'.S w5 wr
  k : GM.GOk n G'.Fs.length A f2
  lo : ∀ j, j ≤ i → ¬ Cn (adj (GM.lvl fk A j)) u v ∧ GM.lvl f2 A j = putE (AK.ek u v) (GM.lvl fk A j)
  hi : ∀ j, i < j → GM.lvl f2 A j = GM.lvl fk A j
  up : ∀ y ∈ A, (f1 y).lv ≤ (f2 y).lv
theorem Ri2.found (h : Ri2 w5 wr G' n N A f1 fk a b i X k u v) (hx : Ext wr w7) (hN : N < 1000000) (ht : (fk ((u : Int), (v : Int))).tr = false) (hl : (fk ((u : Int), (v : Int))).lv = i) (hS : GM.Side n (adj (GM.lvl f1 A i)) a b (inS X)) (hs : ¬ (inS X u = true ↔ inS X v = true)) :
    ∃ W2 f2, (Instr.mapUpdate 82 (.map (some G'.eb)) (.agg #[.int .i64 u, .int .i64 v]) (.agg #[.int .i64 i, .bool true])).run Try.prog w7 = .ok () W2 ∧ Ri3 w5 W2 G' n (N + 1) A f1 fk f2 i u v 0 ∧ Chg G'.S w7 W2 := by
  obtain ⟨W2, hr, hM, hc, hc'⟩ := h.g.write' h.mem h.ok hN hx ⟨i, true⟩
  obtain ⟨u', v', _, _, e1, e2, k1, k2, k3, k4⟩ := h.m.found hS h.x ht hl (by simpa using hs)
  rw [Prod.mk.injEq] at e1
  have hu : u' = u := by omega
  have hv : v' = v := by omega
  subst hu hv
  refine ⟨W2, _, hr, ⟨hM.congr fun j _ => by rw [if_neg (Nat.not_lt_zero _)], h.c.step hc, k1, fun j hj => ?_, k3, k4⟩, hc'⟩
  rw [h.ek]
  exact k2 j hj
theorem Ri3.next {j : Nat} {f2 : AK.Ed → GM.St} {F : FoP} (h : Ri3 w5 wr G' n N A f1 fk f2 i u v j) (hF : G'.Fs[j]? = some F) (hx : Ext wr w7) {w8 : World} (hf : FoAt w8 F n (N + 1) (putE (AK.ek u v) (GM.lvl fk A j))) (hc : Chg F.S w7 w8) : Ri3 w5 w8 G' n (N + 1) A f1 fk f2 i u v (j + 1) := by
  refine ⟨((h.g.ext hx).turn hF hf (by omega) hc).congr fun q _ => ?_, (h.c.stepE hx).step (hc.mono fun k _ hk => .inr (.inr (.inr ⟨_, F, hF, hk⟩))), h.k, h.lo, h.hi, h.up⟩
  by_cases e : q = j
  · subst e; simp
  · rw [if_neg e]
    by_cases e2 : q < j
    · rw [if_pos e2, if_pos (by omega)]
    · rw [if_neg e2, if_neg (by omega)]
theorem Ri3.end_ {f2 : AK.Ed → GM.St} (h : Ri3 w5 wr G' n N A f1 fk f2 i u v (i + 1)) (h6 : G'.Fs.length ≤ 6) (hnN : n ≤ N) : GrI wr G' n N A f2 := by
  refine ⟨h.g.congr fun q _ => ?_, h.k, h6, hnN⟩
  by_cases e : q < i + 1
  · rw [if_pos e]; exact (h.lo q (by omega)).2
  · rw [if_neg e]; exact h.hi q (by omega)
end
/-- What mend has done. -/
def MendPost (w : World) (G : GrP) (n N : Nat) (A : List AK.Ed) (f : AK.Ed → GM.St) (a b i : Nat) (e : Ending) (w' : World) : Prop :=
  ∃ (G' : GrP) (f' : AK.Ed → GM.St), GrC w w' G G' ∧ (∀ x ∈ A, (f x).lv ≤ (f' x).lv) ∧ G'.Fs.length ≤ 6 ∧ G.Fs.length ≤ G'.Fs.length ∧
    ((e = .returned (.tuple #[.bool true, .nilIface]) ∧ GrI w' G' n (N + 700) A f') ∨
     (e = .returned (.tuple #[.bool false, .nilIface]) ∧ GrM w' G' n (N + 700) A f' (GM.lvl f' A) ∧ GM.BOk n G'.Fs.length A f' a b i ∧ (∀ u v, adj A u v → (f' (AK.ek u v)).lv = i → Cn (adj (GM.lvl f' A i)) u v) ∧ ∀ j, j ≤ i → GM.Sm n (adj (GM.lvl f' A j)) j))
end Go.Proofs.Ytlcnoihmhaaekaa

/-
  Forests as they lie in memory. No conditions.
-/
import Derived.Test.YtgdbnjcnilnnmaaGreatDoorSqr
import Derived.Test.YtgdbnjcnilnnmaaGreatDoorVm
import Derived.Test.YtgdbnjcnilnnmaaGreatDoorTr2
import Derived.Test.YtgdbnjcnilnnmaaGreatDoorPf0
namespace Go.Proofs.YtgdbnjcnilnnmaaGreatDoor
open Go Go.RowKit SQ TR DF PD
set_option linter.unusedVariables false

theorem SeqAt.chg2 {S : Nat → Prop} {w w' : World} (hc : Chg S w w') (hS : ∀ k, S k → ∀ cs, ¬ Blk w k 147 cs) : ∀ {t : T} {p : Option Addr}, SeqAt w p t → SeqAt w' p t
  | .nil, _, h => h
  | .node _ _ _, _, ⟨b, lp, rp, h1, h2, h3, h4⟩ => ⟨b, lp, rp, h1, h2.chg hc (fun h => hS b h _ h2), h3.chg2 hc hS, h4.chg2 hc hS⟩
theorem RowAt.chg {S : Nat → Prop} {w w' : World} {p : Option Addr} {xs : List Int} (h : RowAt w p xs) (hc : Chg S w w') (hS : ∀ k, S k → ∀ cs, ¬ Blk w k 147 cs) : RowAt w' p xs := by
  obtain ⟨t, h1, h2⟩ := h; exact ⟨t, h1.chg2 hc hS, h2⟩

/-- Where a forest lies. -/
structure FoP where
  fb : Nat
  mb : Nat
  rb : Nat
  eb : Nat
  c : Nat
/-- The blocks that turn. -/
def FoP.S (F : FoP) (k : Nat) : Prop := k = F.mb ∨ k = F.rb ∨ k = F.eb
def FoP.rv (F : FoP) (n : Nat) : Value := .slice (some ⟨F.rb, 0, none⟩) n F.c
def RootAt (w : World) (F : FoP) (n : Nat) (p : List Int) : Prop := w.ownsRow 0 3 1 (F.rv n) n (intsV p)
def WaysAt (w : World) (n : Nat) (E : List AK.Ed) (p : List Int) (m : Int → Option Value) : Prop := ∀ r : Nat, r < n → g p r = r → ∃ q l, m r = some (.pointer q) ∧ RowAt w q l ∧ TR.Way (adj E) r l
def EdgesAre (E : List AK.Ed) (me : AK.Ed → Option Value) : Prop := ∀ x, okE x → me x = if x ∈ E then some (.int .i64 1) else none
/-- A forest lies in memory: its roots, its ways, its edges. -/
structure FoAt (w : World) (F : FoP) (n N : Nat) (E : List AK.Ed) : Prop where
  blk : Blk w F.fb 87 #[.map (some F.mb), F.rv n, .map (some F.eb)]
  hn : 1 ≤ n ∧ n ≤ 60
  fo : Fo n E
  ne : F.mb ≠ F.eb
  ways : ∃ p s m, Pts n E p ∧ RootAt w F n p ∧ VM kI w F.mb N s m ∧ WaysAt w n E p m
  edges : ∃ me, VM kE w F.eb N E.length me ∧ EdgesAre E me
section
variable {w w' : World} {F : FoP} {n N : Nat} {E : List AK.Ed} {S : Nat → Prop}
theorem root_blk {p : List Int} (h : RootAt w F n p) (hn : 0 < n) : ∃ cs, Blk w F.rb 3 cs := by
  rcases h.2 with ⟨_, h0⟩ | ⟨g', cap, cur, hv, _, hh, _⟩
  · omega
  · simp only [FoP.rv, Value.slice.injEq, Option.some.injEq, Addr.mk.injEq, and_true, true_and] at hv
    obtain ⟨hv, rfl⟩ := hv
    exact ⟨cur, hv ▸ hh⟩
theorem FoAt.chg (h : FoAt w F n N E) (hc : Chg S w w') (hf : ¬ S F.fb) (hS : ∀ k, F.S k → ¬ S k) (hq : ∀ k, S k → ∀ cs, ¬ Blk w k 147 cs) : FoAt w' F n N E := by
  obtain ⟨p, s, m, h1, h2, h3, h4⟩ := h.ways
  obtain ⟨me, k1, k2⟩ := h.edges
  refine ⟨h.blk.chg hc hf, h.hn, h.fo, h.ne, ⟨p, s, m, h1, own_chg h2 hc (fun k hk => hS k (by simp [FoP.rv, Value.ownBlock] at hk; exact .inr (.inl hk.symm))), h3.chg hc (hS _ (.inl rfl)), fun r hr hg => ?_⟩, ⟨me, k1.chg hc (hS _ (.inr (.inr rfl))), k2⟩⟩
  obtain ⟨q, l, a1, a2, a3⟩ := h4 r hr hg
  exact ⟨q, l, a1, a2.chg hc hq, a3⟩
theorem FoAt.lt (h : FoAt w F n N E) : F.fb < w.heap.size ∧ ∀ k, F.S k → k < w.heap.size := by
  obtain ⟨p, s, m, h1, h2, h3, h4⟩ := h.ways
  obtain ⟨me, k1, k2⟩ := h.edges
  refine ⟨h.blk.lt, ?_⟩
  rintro k (rfl | rfl | rfl)
  · exact h3.lt
  · exact own_lt h2 (by simp [FoP.rv, Value.ownBlock])
  · exact k1.lt
theorem FoAt.noseq (h : FoAt w F n N E) : ∀ k, F.S k → ∀ cs, ¬ Blk w k 147 cs := by
  obtain ⟨p, s, m, h1, h2, h3, h4⟩ := h.ways
  obtain ⟨me, k1, k2⟩ := h.edges
  rintro k (rfl | rfl | rfl) cs hb
  · exact h3.blk_ne hb rfl
  · exact own_ne h2 hb (by decide) rfl
  · exact k1.blk_ne hb rfl
theorem FoAt.ext (h : FoAt w F n N E) (hx : Ext w w') : FoAt w' F n N E := by
  have hl := h.lt
  exact h.chg (Chg.of_below hx) (by omega) (fun k hk hk2 => by have := hl.2 k hk; omega) (fun k hk cs hb => by have := hb.lt; omega)
theorem FoAt.mono (h : FoAt w F n N E) {N' : Nat} (hN : N ≤ N') : FoAt w F n N' E := by
  obtain ⟨p, s, m, h1, h2, h3, h4⟩ := h.ways
  obtain ⟨me, k1, k2⟩ := h.edges
  exact ⟨h.blk, h.hn, h.fo, h.ne, ⟨p, s, m, h1, h2, h3.mono hN, h4⟩, ⟨me, k1.mono hN, k2⟩⟩
/-- The forest's own block is none of those that turn. -/
theorem FoAt.fb_ne (h : FoAt w F n N E) : ¬ F.S F.fb := by
  obtain ⟨p, s, m, h1, h2, h3, h4⟩ := h.ways
  obtain ⟨me, k1, k2⟩ := h.edges
  rintro (e | e | e)
  · exact h3.blk_ne h.blk e
  · exact own_ne h2 h.blk (by decide) (by simp [FoP.rv, Value.ownBlock, e])
  · exact k1.blk_ne h.blk e
end
end Go.Proofs.YtgdbnjcnilnnmaaGreatDoor

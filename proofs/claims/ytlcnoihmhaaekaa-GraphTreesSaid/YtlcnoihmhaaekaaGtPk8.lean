/-
  Towards GraphTrees: a graph beside the rows of its edges and levels that were. Conditions: they lie as 'TrR' says.
-/
import Derived.Test.YtlcnoihmhaaekaaGtPk1
import Derived.Test.YtlcnoihmhaaekaaGtPk2
import Derived.Test.YtlcnoihmhaaekaaGtPk3
import Derived.Test.YtlcnoihmhaaekaaGtPk5
import Derived.Test.YtlcnoihmhaaekaaGtPk6
import Derived.Test.YtlcnoihmhaaekaaGtPk7
namespace Go.Proofs.Ytlcnoihmhaaekaa
open Go Go.RowKit SQ TR DF PD PT
set_option linter.unusedVariables false

def lvs (A : List AK.Ed) (f : AK.Ed → GM.St) : List Int := A.map fun x => ((f x).lv : Int)
theorem lvs_len (A : List AK.Ed) (f : AK.Ed → GM.St) : (lvs A f).length = A.length := by unfold lvs; rw [List.length_map]
theorem lvs_at {A : List AK.Ed} {f : AK.Ed → GM.St} {i : Nat} {x : AK.Ed} (h : A[i]? = some x) : (lvs A f)[i]? = some ((f x).lv : Int) := by unfold lvs; rw [List.getElem?_map, h]; rfl
theorem lvs_snoc {A : List AK.Ed} {f : AK.Ed → GM.St} {i : Nat} {x : AK.Ed} (h : A[i]? = some x) : lvs (A.take (i + 1)) f = lvs (A.take i) f ++ [((f x).lv : Int)] := by
  unfold lvs
  rw [List.take_add_one, h, List.map_append]; rfl
theorem IntsAt.chgT {S : Nat → Prop} {w w' : World} {A : Option Addr} {xs : List Int} (h : IntsAt w A xs) (hc : Chg S w w') (hn : xs ≠ [] → ∀ x, A = some x → ¬ S x.block) : IntsAt w' A xs := by
  by_cases h0 : xs = []
  · exact .inl h0
  rcases h with h | ⟨b, off, rfl, hb, he⟩
  · exact absurd h h0
  · exact .inr ⟨b, off, rfl, Nat.lt_of_lt_of_le hb hc.size, fun i v hv => (hc.cell (p := ⟨b, off + i, none⟩) hb (hn h0 ⟨b, off, none⟩ rfl)).trans (he i v hv)⟩
structure TrR (w wr : World) (G : GrP) (n N : Nat) (A : List AK.Ed) (f : AK.Ed → GM.St) (Aw Al : Option Addr) : Prop where
  g : GcS w wr G n N A f
  was : EdsAt wr Aw A
  lev : IntsAt wr Al (lvs A f)
  o1 : A ≠ [] → ∀ x, Aw = some x → ¬ G.T x.block
  o2 : A ≠ [] → ∀ x, Al = some x → ¬ G.T x.block
/-- Behind an event. -/
structure TrN (w wr : World) (G : GrP) (n N : Nat) (A A' : List AK.Ed) (f f' : AK.Ed → GM.St) (Aw Al : Option Addr) : Prop where
  g : GcS w wr G n N A' f'
  was : EdsAt wr Aw A
  lev : IntsAt wr Al (lvs A f)
  rose : GT.Rose A A' f f'
section
variable {w wr w' : World} {G G' : GrP} {n N N' : Nat} {A A' : List AK.Ed} {f f' : AK.Ed → GM.St} {Aw Al : Option Addr}
theorem TrR.start (h : GcS w wr G n N [] f) : TrR w wr G n N [] f none none := ⟨h, .inl rfl, .inl rfl, fun h => absurd rfl h, fun h => absurd rfl h⟩
theorem TrR.moved (h : TrR w wr G n N A f Aw Al) (hx : Ext wr w') : TrR w w' G n N A f Aw Al := ⟨h.g.moved hx, h.was.ext hx, h.lev.ext hx, h.o1, h.o2⟩
theorem TrN.moved (h : TrN w wr G n N A A' f f' Aw Al) (hx : Ext wr w') : TrN w w' G n N A A' f f' Aw Al := ⟨h.g.moved hx, h.was.ext hx, h.lev.ext hx, h.rose⟩
theorem TrR.same (h : TrR w wr G n N A f Aw Al) (hx : Ext wr w') (hN : N ≤ N') : TrN w w' G n N' A A f f Aw Al := ⟨(h.g.moved hx).mono hN, h.was.ext hx, h.lev.ext hx, GT.Rose.same A f⟩
theorem TrR.step (h : TrR w wr G n N A f Aw Al) (h' : GrI w' G' n N' A' f') (hc : GrC wr w' G G') (hr : GT.Rose A A' f f') : TrN w w' G' n N' A A' f f' Aw Al :=
  ⟨h.g.step h' hc, h.was.chg hc.chg fun hne x hx hs => h.o1 hne x hx (.inl hs), h.lev.chgT hc.chg (fun hne x hx hs => h.o2 (fun e => hne (by rw [e]; rfl)) x hx (.inl hs)), hr⟩
theorem step_ext {w w' : World} (hx : Ext w w') : ∀ k cs, Blk w k 34 cs → Blk w' k 34 cs := fun k cs hb => hb.chg (Chg.of_below hx) (by have := hb.lt; omega)
theorem step_chg (h : GrI wr G n N A f) (hc : GrC wr w' G G') : ∀ k cs, Blk wr k 34 cs → Blk w' k 34 cs := fun k cs hb => hb.chg hc.chg (fun hs => h.m.notyp (by decide) hb (.inl hs))
theorem TrR.add (h : TrR w wr G n N A f Aw Al) (hN : N + 4000 < 1000000) (a b : Int) (ha : in64 a) (hb : in64 b) :
    Calls Try.prog 17 #[.pointer (some ⟨G.gb, 0, none⟩), .int .i64 a, .int .i64 b] wr fun e w' => ∃ v G' A' f', e = .returned v ∧ G'.gb = G.gb ∧ TrN w w' G' n (N + 4000) A A' f f' Aw Al ∧ A'.length ≤ A.length + 1 ∧ (∀ k cs, Blk wr k 34 cs → Blk w' k 34 cs) := by
  refine (gadd_any h.g.at_ (by omega) a b ha hb).mono ?_
  rintro e w' (⟨k, _, _, rfl, hx⟩ | ⟨hk, s, rfl, h1, h2⟩)
  · exact ⟨_, G, A, f, rfl, rfl, h.same hx (by omega), by omega, step_ext hx⟩
  · exact ⟨_, G, _, _, rfl, rfl, h.step (h1.mono (by omega)) h2 (GT.Rose.add s (addFault_0 hk).2.2.2.1), by rw [putE_length]; omega, step_chg h.g.at_ h2⟩
theorem TrR.drop (h : TrR w wr G n N A f Aw Al) (hN : N + 4000 < 1000000) (hl : A.length ≤ 200) (a b : Int) :
    Calls Try.prog 19 #[.pointer (some ⟨G.gb, 0, none⟩), .int .i64 a, .int .i64 b] wr fun e w' => ∃ v G' A' f', e = .returned v ∧ G'.gb = G.gb ∧ TrN w w' G' n (N + 4000) A A' f f' Aw Al ∧ A'.length ≤ A.length + 1 ∧ (∀ k cs, Blk wr k 34 cs → Blk w' k 34 cs) := by
  refine (gdrop_any h.g.at_ hN hl a b).mono ?_
  rintro e w' (⟨_, rfl, hx⟩ | ⟨_, _, _, rfl, hx⟩ | ⟨_, _, _, G', f', rfl, h1, h2, h3⟩)
  · exact ⟨_, G, A, f, rfl, rfl, h.same hx (by omega), by omega, step_ext hx⟩
  · exact ⟨_, G, A, f, rfl, rfl, h.same hx (by omega), by omega, step_ext hx⟩
  · exact ⟨_, G', _, f', rfl, h2.gb, h.step h1 h2 (GT.Rose.cut h3), by have := cutE_len_le (AK.ek a b) A; omega, step_chg h.g.at_ h2⟩
/-- The graph that slot 8 points at, at the loop's head. -/
def TrL (w wr : World) (g0 n i : Nat) (A : List AK.Ed) (f : AK.Ed → GM.St) (Aw Al : Option Addr) : Prop := ∃ G : GrP, G.gb = g0 ∧ TrR w wr G n (n + 4000 * i) A f Aw Al ∧ A.length ≤ i
/-- And behind the event. -/
def TrM (w wr : World) (g0 n i : Nat) (A : List AK.Ed) (f : AK.Ed → GM.St) (Aw Al : Option Addr) : Prop := ∃ (G : GrP) (A' : List AK.Ed) (f' : AK.Ed → GM.St), G.gb = g0 ∧ TrN w wr G n (n + 4000 * i) A A' f f' Aw Al ∧ A'.length ≤ i
theorem TrL.ext {g0 i : Nat} (h : TrL w wr g0 n i A f Aw Al) : Ext w wr := by obtain ⟨G, _, h, _⟩ := h; exact h.g.ext
theorem TrL.moved {g0 i : Nat} (h : TrL w wr g0 n i A f Aw Al) (hx : Ext wr w') : TrL w w' g0 n i A f Aw Al := by obtain ⟨G, h1, h2, h3⟩ := h; exact ⟨G, h1, h2.moved hx, h3⟩
theorem TrM.ext {g0 i : Nat} (h : TrM w wr g0 n i A f Aw Al) : Ext w wr := by obtain ⟨G, _, _, _, h, _⟩ := h; exact h.g.ext
theorem TrL.add {g0 i : Nat} (h : TrL w wr g0 n i A f Aw Al) (hi : i < 60) (hn : n ≤ 60) (a b : Int) (ha : in64 a) (hb : in64 b) :
    Calls Try.prog 17 #[.pointer (some ⟨g0, 0, none⟩), .int .i64 a, .int .i64 b] wr fun e w' => ∃ v, e = .returned v ∧ TrM w w' g0 n (i + 1) A f Aw Al ∧ (∀ k cs, Blk wr k 34 cs → Blk w' k 34 cs) := by
  obtain ⟨G, rfl, h2, h3⟩ := h
  refine (h2.add (by omega) a b ha hb).mono ?_
  rintro e w' ⟨v, G', A', f', rfl, q1, q2, q3, q4⟩
  have e1 : n + 4000 * i + 4000 = n + 4000 * (i + 1) := by omega
  rw [e1] at q2
  exact ⟨v, rfl, ⟨G', A', f', q1, q2, by omega⟩, q4⟩
theorem TrL.drop {g0 i : Nat} (h : TrL w wr g0 n i A f Aw Al) (hi : i < 60) (hn : n ≤ 60) (a b : Int) :
    Calls Try.prog 19 #[.pointer (some ⟨g0, 0, none⟩), .int .i64 a, .int .i64 b] wr fun e w' => ∃ v, e = .returned v ∧ TrM w w' g0 n (i + 1) A f Aw Al ∧ (∀ k cs, Blk wr k 34 cs → Blk w' k 34 cs) := by
  obtain ⟨G, rfl, h2, h3⟩ := h
  refine (h2.drop (by omega) (by omega) a b).mono ?_
  rintro e w' ⟨v, G', A', f', rfl, q1, q2, q3, q4⟩
  have e1 : n + 4000 * i + 4000 = n + 4000 * (i + 1) := by omega
  rw [e1] at q2
  exact ⟨v, rfl, ⟨G', A', f', q1, q2, by omega⟩, q4⟩
/-- A graph of the call's own, by its edges alone. -/
def GxS (w wr : World) (g0 n N : Nat) (A : List AK.Ed) : Prop := ∃ (G : GrP) (f : AK.Ed → GM.St), G.gb = g0 ∧ GcS w wr G n N A f
theorem GxS.add {g0 : Nat} (h : GxS w wr g0 n N A) (hN : N + 4000 < 1000000) (a b : Nat) (ha : a < n) (hb : b < n) (hne : a ≠ b) (hm : AK.ek a b ∉ A) (hl : A.length ≠ 200) :
    Calls Try.prog 17 #[.pointer (some ⟨g0, 0, none⟩), .int .i64 a, .int .i64 b] wr fun e w' => e = .returned .nilIface ∧ GxS w w' g0 n (N + 4000) (putE (AK.ek a b) A) := by
  obtain ⟨G, f, rfl, h2⟩ := h
  refine (gadd_ok h2.at_ (by omega) a b ha hb hne hm hl).mono ?_
  rintro e w' ⟨s, rfl, q1, q2⟩
  exact ⟨rfl, G, _, rfl, h2.step (q1.mono (by omega)) q2⟩
theorem GxS.drop {g0 : Nat} (h : GxS w wr g0 n N A) (hN : N + 4000 < 1000000) (hl : A.length ≤ 200) (a b : Nat) (ha : a < n) (hb : b < n) (hm : AK.ek a b ∈ A) :
    Calls Try.prog 19 #[.pointer (some ⟨g0, 0, none⟩), .int .i64 a, .int .i64 b] wr fun e w' => e = .returned .nilIface ∧ GxS w w' g0 n (N + 4000) (cutE (AK.ek a b) A) := by
  obtain ⟨G, f, rfl, h2⟩ := h
  refine (gdrop_ok h2.at_ hN hl ha hb hm).mono ?_
  rintro e w' ⟨G', f', rfl, q1, q2, _⟩
  exact ⟨rfl, G', f', q2.gb, h2.step q1 q2⟩
theorem GxS.joined {g0 : Nat} (h : GxS w wr g0 n N A) (a b : Nat) (ha : a < n) (hb : b < n) (t : Bool) (ht : t = true ↔ Cn (adj A) a b) :
    Calls Try.prog 25 #[.pointer (some ⟨g0, 0, none⟩), .int .i64 a, .int .i64 b] wr fun e w' => e = .returned (.tuple #[.bool t, .nilIface]) ∧ GxS w w' g0 n N A := by
  obtain ⟨G, f, rfl, h2⟩ := h
  refine (gjoined_ok h2.at_.m a b ha hb t (ht.trans h2.at_.k.joins)).mono ?_
  rintro e w' ⟨rfl, hx⟩
  exact ⟨rfl, G, f, rfl, h2.moved hx⟩
theorem GxS.tree {g0 : Nat} (h : GxS w wr g0 n N A) (hl : A.length ≤ 200) (L : Nat) (hL : PD.cnt (ldr A) n + L = n) :
    Calls Try.prog 23 #[.pointer (some ⟨g0, 0, none⟩)] wr fun e w' => (∃ A c, e = .returned (.slice A L c)) ∧ GxS w w' g0 n N A := by
  obtain ⟨G, f, rfl, h2⟩ := h
  have q := tree_len h2.at_
  have e : (GM.lvl f A 0).length = L := by omega
  refine (gtree_any h2.at_.m h2.at_.k.ok h2.at_.k.up hl).mono ?_
  rintro e' w' ⟨A2, c, rfl, _, hx, _⟩
  exact ⟨⟨A2, c, by rw [e]⟩, G, f, rfl, h2.moved hx⟩
end
/-- The levels so far, beside a forest of the call's own. -/
structure NwR (w wr : World) (F : FoP) (n N : Nat) (E : List AK.Ed) (A : List AK.Ed) (f : AK.Ed → GM.St) (k : Nat) (An : Option Addr) (cn : Nat) : Prop where
  fo : TcS w wr F n N E
  row : wr.ownsRow 0 3 1 (.slice An k cn) k (intsV (lvs (A.take k) f))
  new : ∀ j, (Value.slice An k cn).ownBlock = some j → w.heap.size ≤ j
  away : ∀ j, (Value.slice An k cn).ownBlock = some j → ¬ (F.S j ∨ j = F.fb)
section
variable {w wr w' W w5 : World} {F : FoP} {n N k g c cn : Nat} {E A : List AK.Ed} {f : AK.Ed → GM.St} {An : Option Addr} {x : AK.Ed}
theorem NwR.start (h : TcS w wr F n N E) : NwR w wr F n N E A f 0 none 0 := ⟨h, World.ownsRow_nil _ _ _ _, fun j hj => by simp [Value.ownBlock] at hj, fun j hj => by simp [Value.ownBlock] at hj⟩
theorem NwR.moved (h : NwR w wr F n N E A f k An cn) (hx : Ext wr w') : NwR w w' F n N E A f k An cn := ⟨h.fo.moved hx, own_chg h.row (Chg.of_below hx) (fun j hj => by have := own_lt h.row hj; omega), h.new, h.away⟩
theorem NwR.push (h : NwR w wr F n N E A f k An cn) (hW : Ext wr W) (hx : A[k]? = some x) (ho : w5.ownsRow 0 3 1 (.slice (some ⟨g, 0, none⟩) (k + 1) c) (k + 1) (intsV (lvs (A.take k) f) ++ [.int .i64 ((f x).lv : Int)]))
    (hc : Chg (fun j => (Value.slice An k cn).ownBlock = some j) W w5) (hat : (Value.slice An k cn).ownBlock = some g ∨ g = W.heap.size) : NwR w w5 F n N E A f (k + 1) (some ⟨g, 0, none⟩) c := by
  have h1 := h.moved hW
  refine ⟨⟨h1.fo.at_.chg hc (fun hs => h.away _ hs (.inr rfl)) (fun j hj hs => h.away _ hs (.inl hj)) (fun j hj cs hb => own_ne h1.row hb (by decide) hj), h1.fo.ext.chg_new hc (fun j hj => h.new j hj), h1.fo.new⟩, ?_, fun j hj => ?_, fun j hj => ?_⟩
  · rw [lvs_snoc hx]
    unfold intsV at ho ⊢
    rw [List.map_append]
    exact ho
  · obtain rfl : g = j := by simpa [Value.ownBlock] using hj
    rcases hat with hat | hat
    · exact h.new _ hat
    · have := h1.fo.ext.size; omega
  · obtain rfl : g = j := by simpa [Value.ownBlock] using hj
    rcases hat with hat | hat
    · exact h.away _ hat
    · have hl := h1.fo.at_.lt
      rintro (hs | hs)
      · have := hl.2 _ hs; omega
      · omega
end
end Go.Proofs.Ytlcnoihmhaaekaa

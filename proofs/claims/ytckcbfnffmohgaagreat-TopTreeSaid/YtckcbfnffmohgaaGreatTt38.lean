/-
  Opening []Step of package footbridgelaw2 with its events, whose numbers are int's. No conditions.
  Towards DeskPlays: rows of edges that a store's doings leave as they are; the relation of the law's loop. Conditions: as each says.
  Walk of store.Format at a disk that nothing stops. Conditions: the disk lies as 'DAt' says, has 62 pages or more.
  Walk of desk.Format on a disk that nothing stops: what it leaves, what else is as it was. Condition: the disk lies as 'DAt' says.
  A desk's doings through a law, each in one word. Conditions: the desk lies as 'DskA' says.
  Plain and small: a closed fact of a desk; one event alone; a row of edges that Edges has made. Conditions: as each says.
  The closed fact 'one', and a graph drawn of events. Conditions: the events are read as 'EvRow' says.
  What a graph answers, in plain words; edges added one behind the other. Conditions: the graph lies as 'GrI' says.
  Opening []api.Event as a row of events. No conditions.
-/
import Derived.Test.YtckcbfnffmohgaaGreatTt37
import Derived.Test.YtckcbfnffmohgaaGreatTt20
import Derived.Test.YtckcbfnffmohgaaGreatTt30
import Derived.Test.YtckcbfnffmohgaaGreatTt36
import Derived.Deep.CutBlock
import Derived.Deep.DeepCutAuto
import Derived.StillTailTactics
import Derived.Deep.RegionHeld3
namespace Go.Proofs.YtckcbfnffmohgaaGreat
open Go Go.RowKit Go.ChangeShapes Go.WideShapes
set_option linter.unusedVariables false

theorem list3G {α : Type} {l : List α} (h : l.length = 3) : ∃ a b c, l = [a, b, c] := by
  match l, h with
  | [a, b, c], _ => exact ⟨a, b, c, rfl⟩
theorem wf_int {n : Int} (h : (Lit.int .i64 n).wf = true) : -9223372036854775808 ≤ n ∧ n ≤ 9223372036854775807 := by
  simpa [Lit.wf, IntKind.min, IntKind.max, IntKind.signed, IntKind.bits] using h
def EvOne (w : World) (g o : Nat) (e : AK.Ev) : Prop := (w.cell? ⟨g, o, none⟩ = some (.int .i64 e.w) ∧ w.cell? ⟨g, o + 1, none⟩ = some (.int .i64 e.a) ∧ w.cell? ⟨g, o + 2, none⟩ = some (.int .i64 e.b)) ∧ (-9223372036854775808 ≤ e.a ∧ e.a ≤ 9223372036854775807) ∧ (-9223372036854775808 ≤ e.b ∧ e.b ≤ 9223372036854775807)
theorem open_evrow {H : Type} {enc : TypeId × Value → H} {w : World} {spare : Nat → Bool} {held : Bool} {fuel : Nat} {v : Value} {z : DataW H × List MemPlace} (h : DataW.trod enc Tryz.prog w 0 spare held fuel 38 [v] = some z) :
    ∃ (A : Option Addr) (len cap : Nat) (l : List AK.Ev), v = .slice A len cap ∧ EvRow w A l ∧ l.length = len ∧ (len ≤ cap ∧ cap ≤ maxLen) ∧ True ∧ EvIn l := by
  obtain ⟨a, len, cap, rfl⟩ : ∃ a len cap, v = .slice a len cap := by
    rcases Deep.open_slice Tryz.underlying38 h with ⟨hc, _⟩ | ⟨ad, len', cap', m', n', D, Pl, hc, _⟩
    · simp at hc; exact ⟨_, _, _, hc⟩
    · simp at hc; exact ⟨_, _, _, hc⟩
  obtain ⟨hl, hm, h0 | ⟨b, off, rfl, hlt, n, hx⟩⟩ := open_structs Tryz.underlying38 Tryz.underlying62 (show Tryz.prog.cellsOf 62 = 3 by kernel_rfl) (by decide) (show DataW.trod enc Tryz.prog w 0 spare held fuel 38 [.slice a len cap] = _ from h)
  · exact ⟨a, len, cap, [], rfl, .inl rfl, h0.symm, ⟨hl, hm⟩, trivial, fun e he => by cases he⟩
  · have each : ∀ i, i < len → ∃ q : AK.Ev, EvOne w b (off + i * 3) q := by
      intro i hi
      obtain ⟨cs, h1, h2, h3⟩ := hx i hi
      obtain ⟨c0, c1, c2, rfl⟩ := list3G h1
      obtain ⟨y0, g0⟩ := h3 0 _ rfl
      obtain ⟨y1, g1⟩ := h3 1 _ rfl
      obtain ⟨y2, g2⟩ := h3 2 _ rfl
      simp [cellsInt] at g0 g1 g2
      obtain ⟨x0, e0, _⟩ := DataW.trod_int Tryz.underlying3 g0
      obtain ⟨x1, e1, _, k1⟩ := DataW.trod_int Tryz.underlying3 g1
      obtain ⟨x2, e2, _, k2⟩ := DataW.trod_int Tryz.underlying3 g2
      simp at e0 e1 e2
      subst e0; subst e1; subst e2
      exact ⟨⟨x0, x1, x2⟩, ⟨h2 0 _ rfl, h2 1 _ rfl, h2 2 _ rfl⟩, wf_int k1, wf_int k2⟩
    obtain ⟨s, hs⟩ := Deep.choose_lt each
    refine ⟨_, len, cap, (List.range len).map s, rfl, .inr ⟨b, off, rfl, hlt, fun i e he => ?_⟩, by simp, ⟨hl, hm⟩, trivial, fun e he => ?_⟩
    · obtain ⟨hi, rfl⟩ := List.getElem?_eq_some_iff.1 he
      simp at hi ⊢
      exact (hs i hi).1
    · obtain ⟨i, hi, rfl⟩ := List.mem_map.1 he
      exact (hs i (List.mem_range.1 hi)).2
/-- A step with its events. -/
structure GSt where
  e : ESt
  EA : Option Addr
  em : Nat
  ec : Nat
  l : List AK.Ev
instance : Inhabited GSt := ⟨⟨default, none, 0, 0, []⟩⟩
end Go.Proofs.YtckcbfnffmohgaaGreat
namespace Go.Proofs.YtckcbfnffmohgaaGreat
open Go Go.RowKit SQ TR DF PD PT
set_option linter.unusedVariables false

section
variable {W wr w' : World} {A : Option Addr} {c : Nat} {l : List AK.Ed}
end
end Go.Proofs.YtckcbfnffmohgaaGreat
namespace Go.Proofs.YtckcbfnffmohgaaGreat
open Go Go.RowKit
set_option linter.unusedVariables false

end Go.Proofs.YtckcbfnffmohgaaGreat
namespace Go.Proofs.YtckcbfnffmohgaaGreat
open Go Go.RowKit SQ TR DF PD PT
set_option linter.unusedVariables false

end Go.Proofs.YtckcbfnffmohgaaGreat
namespace Go.Proofs.YtckcbfnffmohgaaGreat
open Go Go.RowKit SQ TR DF PD PT
set_option linter.unusedVariables false

/-- A desk: its edges A, saved S; lf: nothing stops its disk. -/
def DskA (lf : Bool) (W wr : World) (gu kb n t : Nat) (A S : List AK.Ed) : Prop :=
  ∃ (d : DK.D) (gs N : Nat) (G : GrP) (f : AK.Ed → GM.St), DkS W wr d gu gs t (NT.encL n S) false kb n N G A f ∧ Good 62 d t (NT.encL n S) ∧ (lf = true → d.left = -1) ∧ DkE n S
/-- A desk whose Save was stopped. -/
def DskB (W wr : World) (gu kb n t : Nat) (A S : List AK.Ed) : Prop :=
  ∃ (d : DK.D) (gs N : Nat) (G : GrP) (f : AK.Ed → GM.St), DkS W wr d gu gs t (NT.encL n S) true kb n N G A f ∧ (∀ keep, Good 62 (DK.crash d keep) t (NT.encL n S) ∨ Good 62 (DK.crash d keep) (t + 1) (NT.encL n A)) ∧ DkE n S
/-- A disk with a store on it, to be opened. -/
def SkA (lf : Bool) (W wr : World) (gu n t : Nat) (S : List AK.Ed) : Prop :=
  ∃ (d : DK.D) (gs t0 : Nat) (b0 : List Int) (dn : Bool), SkR W 62 d gu gs t0 b0 dn none wr ∧ Good 62 d t (NT.encL n S) ∧ (lf = true → d.left = -1) ∧ DkE n S
/-- Events of which one is wrong. -/
def FltK (n : Nat) (l : List AK.Ev) (A : List AK.Ed) (k : Nat) : Prop := (120 < l.length ∧ k = 3) ∨ (l.length ≤ 120 ∧ ∃ i V x y, DS.Okay n l A i ∧ l[i]? = some (⟨V, x, y⟩ : AK.Ev) ∧ DS.flt n (DS.run n l A i).1 V x y = k ∧ k ≠ 0)
section
variable {lf dn : Bool} {W wr w' : World} {gu kb n t k k' c : Nat} {A S : List AK.Ed} {l : List AK.Ev} {R : Option Addr}
theorem FltK.no (h : FltK n l A k) (hl : l.length ≤ 120) (ho : DS.Okay n l A l.length) : False := by
  rcases h with ⟨h1, rfl⟩ | ⟨h1, i, V, x, y, q1, q2, q3, q4⟩
  · omega
  · exact q4 (q3.symm.trans (ho i _ (List.getElem?_eq_some_iff.1 q2).1 q2))
theorem DskA.moved (h : DskA lf W wr gu kb n t A S) (hx : Ext wr w') : DskA lf W w' gu kb n t A S := by
  obtain ⟨d, gs, N, G, f, h1, h2⟩ := h
  exact ⟨d, gs, N, G, f, h1.moved hx, h2⟩
theorem DskA.ext (h : DskA lf W wr gu kb n t A S) : Ext W wr := by obtain ⟨d, gs, N, G, f, h1, h2⟩ := h; exact h1.ext
/-- Formatted. -/
theorem da_fmt {e : Ending} (h : DfPost W gu n e wr) (hn : 1 ≤ n ∧ n ≤ 60) : e = .returned .nilIface ∧ SkA true W wr gu n 1 [] := by
  obtain ⟨rfl, gs, d, h1, h2, h3⟩ := h
  exact ⟨rfl, d, gs, 1, _, false, h1, h2, fun _ => h3, DkE.nil hn⟩
theorem da_open (h : SkA lf W wr gu n t S) : Calls Tryz.prog 18 #[.pointer (some ⟨gu, 0, none⟩)] wr fun e w' => ∃ kb, e = .returned (.tuple #[.pointer (some ⟨kb, 0, none⟩), .nilIface]) ∧ DskA lf W w' gu kb n t S S ∧ Ext wr w' := by
  obtain ⟨d, gs0, t0, b0, dn, h1, h2, h3, h4⟩ := h
  refine (dopen_any h1 h2 h4).mono ?_
  rintro e w' ⟨⟨kb, gs, G, f, rfl, q⟩, hx⟩
  exact ⟨kb, rfl, ⟨d, gs, _, G, f, q, h2, h3, h4⟩, hx⟩
theorem da_turn (h : DskA lf W wr gu kb n t A S) : Calls Tryz.prog 21 #[.pointer (some ⟨kb, 0, none⟩)] wr fun e w' => e = .returned (.int .i64 t) ∧ Ext wr w' := by
  obtain ⟨d, gs, N, G, f, h1, h2⟩ := h
  exact dturn_any h1
theorem da_save (h : DskA lf W wr gu kb n t A S) (ht : t + 1 ≤ 790) : Calls Tryz.prog 20 #[.pointer (some ⟨kb, 0, none⟩)] wr fun e w' => ((e = .returned .nilIface ∧ DskA lf W w' gu kb n (t + 1) A A) ∨ (e = .returned (derrV 8) ∧ lf = false ∧ DskB W w' gu kb n t A S)) ∧ Keeps wr w' := by
  obtain ⟨d, gs, N, G, f, h1, h2, h3, h4⟩ := h
  refine (dsave_any h1 h2 ht).mono ?_
  rintro e w' ⟨⟨d', rfl, q1, q2, q3⟩ | ⟨d', rfl, q1, q2, q3⟩, hk⟩
  · exact ⟨.inl ⟨rfl, d', gs, N, G, f, q1, q2, fun hl => q3 (h3 hl), h1.de⟩, hk⟩
  · refine ⟨.inr ⟨rfl, ?_, d', gs, N, G, f, q2, q3, h4⟩, hk⟩
    cases lf
    · rfl
    · exact absurd (h3 rfl) q1
/-- Events that are right, what they come to. -/
def DoneK (n : Nat) (l : List AK.Ev) (A A' : List AK.Ed) (xs : List Bool) : Prop := l.length ≤ 120 ∧ DS.Okay n l A l.length ∧ DS.run n l A l.length = (A', xs)
theorem DoneK.one {A' A2 : List AK.Ed} {xs xs2 : List Bool} (h : DoneK n l A A' xs) (h' : DoneK n l A A2 xs2) : A' = A2 ∧ xs = xs2 := by
  have := h.2.2.symm.trans h'.2.2
  injection this with h1 h2
  exact ⟨h1, h2⟩
theorem FltK.no2 {A' : List AK.Ed} {xs : List Bool} (h : FltK n l A k) (h' : DoneK n l A A' xs) : False := h.no h'.1 h'.2.1
/-- What Do leaves of a desk. -/
def DaDo (lf : Bool) (W wr : World) (gu kb n t : Nat) (A S : List AK.Ed) (l : List AK.Ev) (e : Ending) (w' : World) : Prop :=
  (∃ k : Nat, FltK n l A k ∧ e = .returned (.tuple #[.slice none 0 0, errV k]) ∧ Ext wr w') ∨
  (∃ A' xs, DoneK n l A A' xs ∧ ∃ (Ao : Option Addr) (c : Nat), e = .returned (.tuple #[.slice Ao xs.length c, .nilIface]) ∧ w'.ownsRow 0 4 1 (.slice Ao xs.length c) xs.length (bolV xs) ∧ (∀ j, (Value.slice Ao xs.length c).ownBlock = some j → wr.heap.size ≤ j) ∧
    DskA lf W w' gu kb n t A' S ∧ Chg (fun k => k = kb) wr w')
theorem da_do (h : DskA lf W wr gu kb n t A S) (Ae : Option Addr) (m c : Nat) (l : List AK.Ev) (hl : l.length = m) (hE : EvRow wr Ae l) (hin : EvIn l) : Calls Tryz.prog 19 #[.pointer (some ⟨kb, 0, none⟩), .slice Ae m c] wr (DaDo lf W wr gu kb n t A S l) := by
  obtain ⟨d, gs, N, G, f, h1, h2, h3, h4⟩ := h
  refine (ddo_any wr kb gs n N G A f h1.blk h1.g h1.le Ae m c l hl hE hin).mono ?_
  rintro e w' (⟨k, hk, rfl, hx⟩ | ⟨q1, q2, Ao, co, N', G', f', rfl, q3, q4, q5, q6, q7, q8⟩)
  · exact .inl ⟨k, hk, rfl, hx⟩
  · exact .inr ⟨_, _, ⟨q1, q2, rfl⟩, Ao, co, rfl, q3, q4, ⟨d, gs, N', G', f', h1.did q5 q6 q7 q8 (run_le h1.le _ q2), h2, h3, h4⟩, q8⟩
end
end Go.Proofs.YtckcbfnffmohgaaGreat
namespace Go.Proofs.YtckcbfnffmohgaaGreat
open Go Go.RowKit SQ TR DF PD PT
set_option linter.unusedVariables false

theorem fact_done : DoneK 3 [(⟨1, 0, 1⟩ : AK.Ev), ⟨3, 1, 0⟩] [] [((0 : Int), (1 : Int))] [true] := by
  have e0 : DS.run 3 [(⟨1, 0, 1⟩ : AK.Ev), ⟨3, 1, 0⟩] [] 1 = ([((0 : Int), (1 : Int))], []) := by
    rw [DS.run_next (e := ⟨1, 0, 1⟩) rfl]
    show (DS.nxt [] 1 0 1, [] ++ DS.out1 [] ⟨1, 0, 1⟩) = _
    have h1 : DS.nxt [] 1 0 1 = [((0 : Int), (1 : Int))] := by decide
    have h2 : DS.out1 [] ⟨1, 0, 1⟩ = [] := by unfold DS.out1; rw [if_neg (by decide)]
    rw [h1, h2]; rfl
  refine ⟨by decide, fun j e hj he => ?_, ?_⟩
  · have hj2 : j = 0 ∨ j = 1 := by simp at hj; omega
    rcases hj2 with rfl | rfl
    · simp at he; subst he
      show DS.flt 3 [] 1 0 1 = 0
      decide
    · simp at he; subst he
      rw [e0]
      show DS.flt 3 [((0 : Int), (1 : Int))] 3 1 0 = 0
      decide
  · show DS.run 3 [(⟨1, 0, 1⟩ : AK.Ev), ⟨3, 1, 0⟩] [] 2 = _
    rw [DS.run_next (e := ⟨3, 1, 0⟩) rfl, e0]
    show (DS.nxt [((0 : Int), (1 : Int))] 3 1 0, [] ++ DS.out1 [((0 : Int), (1 : Int))] ⟨3, 1, 0⟩) = _
    have h1 : DS.nxt [((0 : Int), (1 : Int))] 3 1 0 = [((0 : Int), (1 : Int))] := by decide
    have h2 : DS.out1 [((0 : Int), (1 : Int))] ⟨3, 1, 0⟩ = [true] := by
      unfold DS.out1
      rw [if_pos rfl]
      have : true = DS.ansB [((0 : Int), (1 : Int))] 1 0 := DS.ansB_iff (iff_of_true rfl (DF.Cn.edge (.inr (by simp))))
      rw [← this]
    rw [h1, h2]; rfl
section
variable {n k : Nat} {e : AK.Ev} {B B' : List AK.Ed} {xs : List Bool}
end
theorem ev_new (w : World) (l : List AK.Ev) (cs : Array Value) (h : ∀ i e, l[i]? = some e → cs[i * 3]? = some (.int .i64 e.w) ∧ cs[i * 3 + 1]? = some (.int .i64 e.a) ∧ cs[i * 3 + 2]? = some (.int .i64 e.b)) : EvRow (w.alloc (.cells cs 62)) (some ⟨w.heap.size, 0, none⟩) l := by
  have hb := Blk.new w 62 cs
  refine .inr ⟨_, 0, rfl, hb.lt, fun i e he => ?_⟩
  obtain ⟨q1, q2, q3⟩ := h i e he
  refine ⟨?_, ?_, ?_⟩
  · rw [hb.cell, Nat.zero_add]; exact q1
  · rw [hb.cell, Nat.zero_add]; exact q2
  · rw [hb.cell, Nat.zero_add]; exact q3
theorem fact_row (w : World) : EvRow (w.alloc (.cells #[.int .i64 1, .int .i64 0, .int .i64 1, .int .i64 3, .int .i64 1, .int .i64 0] 62)) (some ⟨w.heap.size, 0, none⟩) [⟨1, 0, 1⟩, ⟨3, 1, 0⟩] := ev_new w _ _ fun i e he => by
  match i, he with
  | 0, he => simp at he; subst he; exact ⟨rfl, rfl, rfl⟩
  | 1, he => simp at he; subst he; exact ⟨rfl, rfl, rfl⟩
  | k + 2, he => simp at he
/-- Do of the closed fact. -/
theorem da_fact {lf : Bool} {W w3 : World} {gu kb t : Nat} {S : List AK.Ed} (h : DskA lf W w3 gu kb 3 t [] S) : Calls Tryz.prog 19 #[.pointer (some ⟨kb, 0, none⟩), .slice (some ⟨w3.heap.size, 0, none⟩) 2 2] (w3.alloc (.cells #[.int .i64 1, .int .i64 0, .int .i64 1, .int .i64 3, .int .i64 1, .int .i64 0] 62)) fun e w' => ∃ Ao c, e = .returned (.tuple #[.slice Ao 1 c, .nilIface]) ∧ BoolsAt w' Ao [true] ∧ (∃ b, Ao = some ⟨b, 0, none⟩ ∧ w'.cell? ⟨b, 0, none⟩ = some (.bool true)) ∧ DskA lf W w' gu kb 3 t [((0 : Int), (1 : Int))] S := by
  refine (da_do (h.moved (Ext.alloc _ _)) _ 2 2 [⟨1, 0, 1⟩, ⟨3, 1, 0⟩] rfl (fact_row w3) (by intro e he; simp at he; rcases he with rfl | rfl <;> simp)).mono ?_
  rintro e w' (⟨k, hk, _⟩ | ⟨A', xs, hdn, Ao, c, rfl, ho, _, h5, _⟩)
  · exact (hk.no2 fact_done).elim
  · obtain ⟨rfl, rfl⟩ := hdn.one fact_done
    have hb := (BoolsAt.of_own ho).1
    refine ⟨Ao, c, rfl, hb, ?_, h5⟩
    obtain ⟨g, cap, hv, _⟩ := own_form ho (by decide)
    simp only [Value.slice.injEq, true_and] at hv
    obtain ⟨rfl, rfl⟩ := hv
    exact ⟨g, rfl, by have := ho.cellAt 0 (by decide); simpa [bolV] using this⟩
end Go.Proofs.YtckcbfnffmohgaaGreat
namespace Go.Proofs.YtckcbfnffmohgaaGreat
open Go Go.RowKit SQ TR DF PD PT
set_option linter.unusedVariables false

set_option maxHeartbeats 4000000 in
set_option maxRecDepth 100000 in
theorem one_any (w : World) : Calls Tryz.prog 5 #[] w fun e w' => e = .returned (.bool true) ∧ Ext w w' := by
  go_enter Tryz.func5, Tryz.ntmps5
  go_wp2_with fail
  refine (dnew_yes w 62 (by omega) (by omega)).mono ?_
  rintro e w1 ⟨u, rfl, hd1, hx1, hf1⟩
  have HFM := dformat_new (n := 3) u hd1 hx1 hf1 (by omega)
  obtain ⟨gu, hgu⟩ : ∃ g, u.g = g := ⟨_, rfl⟩
  rw [hgu] at HFM ⊢
  have HFM := Lib.hid HFM
  clear hd1 hx1 hf1 hgu
  go_wp2_with fail
  refine HFM.out.mono ?_
  intro e w2 h2
  obtain ⟨rfl, hk2⟩ := da_fmt h2 (by omega)
  have H2 := Lib.hid hk2
  clear h2 hk2 HFM
  go_wp2_with fail
  refine (da_open H2.out).mono ?_
  rintro e w3 ⟨kb, rfl, h3, _⟩
  have H3 := Lib.hid h3
  clear h3 H2
  go_wp2_with fail
  refine (da_fact H3.out).mono ?_
  rintro e w4 ⟨Ao, c4, rfl, hb4, ⟨b4, rfl, e4⟩, h4⟩
  have H4 := Lib.hid h4
  clear h4 hb4 H3
  go_wp2_with fail
  refine (da_save H4.out (by omega)).mono ?_
  rintro e w6 ⟨⟨rfl, h6⟩ | ⟨_, hb, _⟩, _⟩
  case inr => cases hb
  have H6 := Lib.hid h6
  clear h6 H4 e4
  go_wp2_with fail
  refine (da_turn H6.out).mono ?_
  rintro e w7 ⟨rfl, hx7⟩
  have H7 := Lib.hid (H6.out.moved hx7)
  clear hx7 H6
  go_wp2
  go_ret
  exact ⟨rfl, H7.out.ext⟩
/-- The graph so far. -/
def DrR (w wr : World) (g0 n i : Nat) : Prop := ∃ (G : GrP) (A : List AK.Ed) (f : AK.Ed → GM.St), G.gb = g0 ∧ GcS w wr G n (n + 4000 * i) A f ∧ A.length ≤ i
section
variable {w wr w' : World} {g0 n i : Nat}
theorem DrR.moved (h : DrR w wr g0 n i) (hx : Ext wr w') : DrR w w' g0 n i := by obtain ⟨G, A, f, h1, h2, h3⟩ := h; exact ⟨G, A, f, h1, h2.moved hx, h3⟩
theorem DrR.ext (h : DrR w wr g0 n i) : Ext w wr := by obtain ⟨G, A, f, _, h, _⟩ := h; exact h.ext
theorem DrR.add (h : DrR w wr g0 n i) (hi : i < 120) (x y : Int) (hx : in64 x) (hy : in64 y) : Calls Tryz.prog 29 #[.pointer (some ⟨g0, 0, none⟩), .int .i64 x, .int .i64 y] wr fun e w' => ∃ v, e = .returned v ∧ DrR w w' g0 n (i + 1) := by
  obtain ⟨G, A, f, rfl, h2, h3⟩ := h
  have hn := h2.at_.m.hn
  refine (act_add h2.at_ (by omega) x y hx hy).mono ?_
  rintro e w' ⟨rfl, G', f', q1, q2⟩
  refine ⟨_, rfl, G', _, f', q2.gb, h2.step (q1.mono (by omega)) q2, ?_⟩
  split
  · unfold DS.nxt; rw [if_pos rfl, putE_length]; omega
  · omega
theorem DrR.drop (h : DrR w wr g0 n i) (hi : i < 120) (x y : Int) : Calls Tryz.prog 28 #[.pointer (some ⟨g0, 0, none⟩), .int .i64 x, .int .i64 y] wr fun e w' => ∃ v, e = .returned v ∧ DrR w w' g0 n (i + 1) := by
  obtain ⟨G, A, f, rfl, h2, h3⟩ := h
  have hn := h2.at_.m.hn
  refine (act_drop h2.at_ (by omega) (by omega) x y).mono ?_
  rintro e w' ⟨rfl, G', f', q1, q2⟩
  refine ⟨_, rfl, G', _, f', q2.gb, h2.step (q1.mono (by omega)) q2, ?_⟩
  split
  · unfold DS.nxt; rw [if_neg (by decide), if_pos rfl]; have := cutE_len_le (AK.ek x y) A; omega
  · omega
end
/-- What drawn leaves. -/
def DrPost (w : World) (n : Nat) (e : Ending) (w' : World) : Prop := ∃ (G : GrP) (A : List AK.Ed) (f : AK.Ed → GM.St) (N : Nat), e = .returned (.tuple #[.pointer (some ⟨G.gb, 0, none⟩), .bool true]) ∧ GcS w w' G n N A f ∧ N ≤ 480060 ∧ A.length ≤ 120
set_option maxHeartbeats 1000000 in
theorem drawn_no (w : World) (n : Int) (a : Option Addr) (m c : Nat) (hn : n < 1 ∨ 60 < n) : Calls Tryz.prog 10 #[.int .i64 n, .slice a m c] w fun e w' => e = .returned (.tuple #[.pointer none, .bool false]) ∧ w = w' := by
  have HG := Lib.hid (gnew_no w n hn)
  clear hn
  go_enter Tryz.func10, Tryz.ntmps10
  go_wp2_with fail
  refine HG.out.mono ?_
  rintro e w1 ⟨rfl, rfl⟩
  go_wp2
  go_ret2
  exact ⟨rfl, rfl⟩
set_option maxHeartbeats 4000000 in
set_option maxRecDepth 100000 in
theorem drawn_any (w : World) (n : Nat) (hn : 1 ≤ n ∧ n ≤ 60) (a1 : Option Addr) (len1 cap1 : Nat) (l : List AK.Ev) (hl : l.length = len1) (hE : EvRow w a1 l) (hin : EvIn l) : Calls Tryz.prog 10 #[.int .i64 n, .slice a1 len1 cap1] w (DrPost w n) := by
  have HE : Hid (EvRow w a1 l ∧ EvIn l ∧ l.length = len1) := ⟨hE, hin, hl⟩
  clear hE hin hl
  go_enter Tryz.func10, Tryz.ntmps10
  go_wp2_with fail
  refine (gnew_ok w n hn).mono ?_
  intro e w1 hp
  obtain ⟨G, rfl, hgc, hx1⟩ := GcS.made (Ext.refl w) hp
  obtain ⟨g0, hg0⟩ : ∃ g, G.gb = g := ⟨_, rfl⟩
  have R0 : Hid (DrR w w1 g0 n 0) := ⟨G, [], _, hg0, hgc, Nat.le_refl _⟩
  rw [hg0]
  clear hp hgc hx1 hg0
  go_wp2
  go_loopw [8] (fun v8 wr => ∃ i : Nat, i ≤ len1 ∧ i ≤ 120 ∧ v8 = .int .i64 i ∧ Hid (DrR w wr g0 n i)) (fun v8 _ => len1 - (intOf v8).toNat)
  case atStart => exact ⟨0, Nat.zero_le _, Nat.zero_le _, rfl, R0.out⟩
  case round =>
    as_aux_lemma =>
    obtain ⟨i, hi, hi2, rfl, HR⟩ := hrel
    clear R0
    by_cases c : i < len1 ∧ i < 120
    · obtain ⟨c1, c2⟩ := c
      obtain ⟨b, off, V, x, y, rfl, hx, p0, p1, p2⟩ := (HE.out.1.ext HR.out.ext).at_ (show i < l.length by rw [HE.out.2.2]; exact c1)
      have HI : Hid (in64 x ∧ in64 y) := HE.out.2.1 _ (List.mem_of_getElem? hx)
      have z0 : (0 : Int) ≤ (i : Int) := by omega
      have z1 : (i : Int) < (len1 : Int) := by omega
      have z2 : (i : Int) < 120 := by omega
      have HC : Hid (∀ W, Ext w W → Ext w W ∧ W.cell? ⟨b, off + i * 3 + 1, none⟩ = some (.int .i64 x) ∧ W.cell? ⟨b, off + i * 3 + 2, none⟩ = some (.int .i64 y)) := fun W hW => by
        rcases HE.out.1.ext hW with h0 | ⟨b', off', he, hb', hc'⟩
        · have := HE.out.2.2; subst h0; simp at this; omega
        · injection he with he
          injection he with e1 e2
          subst e1; subst e2
          exact ⟨hW, (hc' i _ hx).2⟩
      have hE0 : Ext w wr := HR.out.ext
      clear hx
      by_cases hV : V = 2
      · subst hV
        have HDR := Lib.hid (fun W (hW : Ext wr W) => (HR.out.moved hW).drop c2 x y)
        go_wp2_with fail
        go_region_held3 (fun W => Ext w W ∧ W.cell? ⟨b, off + i * 3 + 1, none⟩ = some (.int .i64 x) ∧ W.cell? ⟨b, off + i * 3 + 2, none⟩ = some (.int .i64 y))
          (exact HC.out _ (by first | assumption | exact Ext.trans hE0 (Ext.drew _) | exact fst_ (by assumption) | exact Ext.trans (fst_ (by assumption)) (by assumption)))
          (first
            | (go_at_call 28; refine (HDR.out _ (Ext.drew _)).mono ?_; rintro e w8 ⟨v, rfl, h8⟩; have H8 := Lib.hid h8; have hF8 : Ext w w8 := h8.ext; clear h8)
            | fail)
        rename_i hHeld
        clear hHeld HR HDR HC hE0 hF8
        go_wp2
        go_roundw
        case rel => exact ⟨i + 1, by omega, by omega, by go_num, H8.out⟩
        case measure => simp [intOf]; omega
      · have hV' : (V == 2) = false := by simpa using hV
        have HDR := Lib.hid (fun W (hW : Ext wr W) => (HR.out.moved hW).add c2 x y HI.out.1 HI.out.2)
        go_wp2_with fail
        go_region_held3 (fun W => Ext w W ∧ W.cell? ⟨b, off + i * 3 + 1, none⟩ = some (.int .i64 x) ∧ W.cell? ⟨b, off + i * 3 + 2, none⟩ = some (.int .i64 y))
          (exact HC.out _ (by first | assumption | exact Ext.trans hE0 (Ext.drew _) | exact fst_ (by assumption) | exact Ext.trans (fst_ (by assumption)) (by assumption)))
          (first
            | (go_at_call 29; refine (HDR.out _ (Ext.drew _)).mono ?_; rintro e w8 ⟨v, rfl, h8⟩; have H8 := Lib.hid h8; have hF8 : Ext w w8 := h8.ext; clear h8)
            | fail)
        rename_i hHeld
        clear hHeld HR HDR HC hE0 hF8
        go_wp2
        go_roundw
        case rel => exact ⟨i + 1, by omega, by omega, by go_num, H8.out⟩
        case measure => simp [intOf]; omega
    · have HP : Hid (DrPost w n (.returned (.tuple #[.pointer (some ⟨g0, 0, none⟩), .bool true])) wr) := by
        obtain ⟨G, A, f, rfl, h2, h3⟩ := HR.out
        exact ⟨G, A, f, _, rfl, h2, by omega, by omega⟩
      clear HR
      have hii : (i < len1 ∧ ¬ i < 120) ∨ ¬ i < len1 := by omega
      clear c
      rcases hii with ⟨c1, c2⟩ | c1
      all_goals
        go_wp2
        go_ret2
        exact HP.out
end Go.Proofs.YtckcbfnffmohgaaGreat
namespace Go.Proofs.YtckcbfnffmohgaaGreat
open Go Go.RowKit SQ TR DF PD PT
set_option linter.unusedVariables false

section
variable {w w' wr : World} {G : GrP} {n N : Nat} {A B : List AK.Ed} {f : AK.Ed → GM.St}
theorem GrI.de (h : GrI w G n N A f) (hl : A.length ≤ 200) : DkE n A := ⟨h.m.hn, h.k.ok, h.k.up, hl⟩
/-- The graph's Edges. -/
theorem ge_any (h : GrI w G n N A f) (hl : A.length ≤ 200) : Calls Tryz.prog 11 #[.pointer (some ⟨G.gb, 0, none⟩)] w fun e w' => ∃ A5 c5, e = .returned (.slice A5 A.length c5) ∧ EdsAt w' A5 A ∧ (A.length ≤ c5 ∧ c5 ≤ maxLen) ∧ Ext w w' := by
  refine (gedges_any h.m h.k.ok h.k.up hl).mono ?_
  rintro e w5 ⟨A5, c5, rfl, hd5, hx5, _⟩
  have hed := DRow.eds hd5 rfl
  exact ⟨A5, c5, rfl, hed.1, ⟨hed.2, own_capmax (show w5.ownsRow 0 32 2 (.slice A5 A.length c5) A.length (rowsOf edC A) from hd5)⟩, hx5⟩
end
end Go.Proofs.YtckcbfnffmohgaaGreat
namespace Go.Proofs.YtckcbfnffmohgaaGreat
open Go Go.RowKit Go.ChangeShapes Go.WideShapes
set_option linter.unusedVariables false

theorem open_evs2 {H : Type} {enc : TypeId × Value → H} {w : World} {spare : Nat → Bool} {held : Bool} {a : Option Addr} {len cap : Nat} {d : DataW H} {p : List MemPlace} (h : DataW.Trod enc Tryz.prog w 0 spare held 38 (.slice a len cap) d p) : ∃ l : List AK.Ev, EvRow w a l ∧ l.length = len ∧ (len ≤ cap ∧ cap ≤ maxLen) ∧ EvIn l := by
  obtain ⟨fuel, hf⟩ := h
  obtain ⟨A, m, c, l, hv, q1, q2, q3, _, q4⟩ := open_evrow hf
  injection hv with e1 e2 e3
  subst e1; subst e2; subst e3
  exact ⟨l, q1, q2, q3, q4⟩
end Go.Proofs.YtckcbfnffmohgaaGreat

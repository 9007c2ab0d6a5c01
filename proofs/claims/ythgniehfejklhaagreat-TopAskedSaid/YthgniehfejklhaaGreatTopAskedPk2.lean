/-
  Plain: events that are right as a whole, done piece by piece. No program here; no conditions.
  Two desks beside each other, their disks left alone. Conditions: a desk lies as 'Dsg' says.
-/
import Derived.Test.YthgniehfejklhaaGreatTopAskedPk1
import Derived.Test.YthgniehfejklhaaGreatBs46
namespace Go.Proofs.YthgniehfejklhaaGreat
set_option linter.unusedVariables false
namespace AG
open AK UF DF PD TR DS
section
variable {n i j d at_ : Nat} {l : List Ev} {A : List AK.Ed} {e : Ev}
/-- What is there behind the first i events, in its order. -/
structure AgE (n : Nat) (l : List Ev) (i : Nat) (A : List AK.Ed) : Prop where
  s : AgS l i A
  ok : ∀ x ∈ A, 0 ≤ x.1 ∧ x.1 < x.2 ∧ x.2 < (n : Int)
theorem asked_step (l : List Ev) (low d : Nat) : asked l low (d + 1) = asked l low d ++ (if (l.getD (low + d) default).w = 3 then [ansAt l (low + d)] else []) := rfl
theorem AgE.flt (h : AgE n l i A) (hg : AK.Good (n : Int) l) (he : l[i]? = some e) : DS.flt n A e.w e.a e.b = 0 := by
  have hlt := (List.getElem?_eq_some_iff.1 he).1
  obtain ⟨h1, h2, h3, h4, h5, h6, h7, h8, h9⟩ := good_at hg he
  have hl := hg.2.2.1
  have hA := h.s.len
  unfold DS.flt
  rw [if_neg (by omega)]
  by_cases w1 : e.w = 1
  · rw [if_pos w1]
    have hm : AK.ek e.a e.b ∉ A := fun q => by have := (h.s.th _).2 q; rw [h8 w1] at this; cases this
    unfold addFault
    rw [if_neg (by omega), if_neg (h7 (by omega)), if_neg hm, if_neg (by omega)]
  · rw [if_neg w1]
    by_cases w2 : e.w = 2
    · rw [if_pos w2, if_pos ((h.s.th _).1 (h9 w2))]
    · rw [if_neg w2]
theorem AgE.next (h : AgE n l i A) (hg : AK.Good (n : Int) l) (he : l[i]? = some e) : AgE n l (i + 1) (DS.nxt A e.w e.a e.b) := by
  obtain ⟨h1, h2, h3, h4, h5, h6, h7, h8, h9⟩ := good_at hg he
  unfold DS.nxt
  by_cases w1 : e.w = 1
  · rw [if_pos w1]
    have hm : AK.ek e.a e.b ∉ A := fun q => by have := (h.s.th _).2 q; rw [h8 w1] at this; cases this
    refine ⟨h.s.add he w1 hm, fun x hx => ?_⟩
    rcases putE_mem.1 hx with q | q
    · rw [q]; unfold AK.ek; simp only; have := h7 (by omega); omega
    · exact h.ok x q
  · rw [if_neg w1]
    by_cases w2 : e.w = 2
    · rw [if_pos w2]
      exact ⟨h.s.drop he w2 ((h.s.th _).1 (h9 w2)), fun x hx => h.ok x (cutE_mem.1 hx).1⟩
    · rw [if_neg w2]
      exact ⟨h.s.ask he (by omega), h.ok⟩
theorem AgE.out (h : AgE n l i A) (hg : AK.Good (n : Int) l) (he : l[i]? = some e) : DS.out1 A e = if (l.getD i default).w = 3 then [ansAt l i] else [] := by
  have hd : l.getD i default = e := by rw [List.getD_eq_getElem?_getD, he]; rfl
  obtain ⟨h1, h2, h3, h4, h5, h6, _⟩ := good_at hg he
  rw [hd]
  unfold DS.out1
  by_cases w3 : e.w = 3
  · rw [if_pos w3, if_pos w3]
    have := h.s.ans hg h.ok he w3 (a := e.a.toNat) (b := e.b.toNat) (by omega) (by omega)
    rw [DS.ansB_iff this]
  · rw [if_neg w3, if_neg w3]
theorem piece_get {k : Nat} (hk : k < d) : ((l.drop at_).take d)[k]? = l[at_ + k]? := by
  rw [List.getElem?_take, if_pos hk, List.getElem?_drop]
theorem AgE.run (h : AgE n l at_ A) (hg : AK.Good (n : Int) l) (hd : at_ + d ≤ l.length) : ∀ j, j ≤ d → DS.Okay n ((l.drop at_).take d) A j ∧ AgE n l (at_ + j) (DS.run n ((l.drop at_).take d) A j).1 ∧ (DS.run n ((l.drop at_).take d) A j).2 = asked l at_ j
  | 0, _ => ⟨DS.Okay.zero _ _ _, h, rfl⟩
  | j + 1, hj => by
    obtain ⟨h1, h2, h3⟩ := h.run hg hd j (by omega)
    obtain ⟨e, he⟩ : ∃ e, l[at_ + j]? = some e := ⟨_, List.getElem?_eq_getElem (by omega)⟩
    have he' : ((l.drop at_).take d)[j]? = some e := by rw [piece_get (by omega), he]
    refine ⟨h1.next he' (h2.flt hg he), ?_, ?_⟩
    · rw [DS.run_next he']
      exact h2.next hg he
    · rw [DS.run_next he', asked_step, ← h3, ← h2.out hg he]
theorem AgE.done (h : AgE n l at_ A) (hg : AK.Good (n : Int) l) (hd : at_ + d ≤ l.length) : ∃ A', DoneK n ((l.drop at_).take d) A A' (asked l at_ d) ∧ AgE n l (at_ + d) A' := by
  have hl : ((l.drop at_).take d).length = d := by rw [List.length_take, List.length_drop]; omega
  obtain ⟨h1, h2, h3⟩ := h.run hg hd d (Nat.le_refl _)
  refine ⟨_, ⟨?_, ?_, ?_⟩, h2⟩
  · have := hg.2.2.1; omega
  · rw [hl]; exact h1
  · rw [hl, ← h3]
theorem AgE.start (n : Nat) (l : List Ev) : AgE n l 0 [] := ⟨AgS.start l, by simp⟩
end
end AG
end Go.Proofs.YthgniehfejklhaaGreat
namespace Go.Proofs.YthgniehfejklhaaGreat
open Go Go.RowKit Go.ChangeShapes Go.WideShapes SQ TR DF PD PT
set_option linter.unusedVariables false

/-- A formatted disk, and what has turned elsewhere since. -/
theorem dff_sk {W wr w3 w4 : World} {u : Dsk} {X : Nat → Prop} {n : Nat} {e : Ending} (h : DffPost wr u n e w3) (hW : Ext W wr) (hf : ∀ k, u.fp k → W.heap.size ≤ k) (hn : 1 ≤ n ∧ n ≤ 60) (hX : ∀ k, X k → k < wr.heap.size ∧ ¬ u.fp k ∧ W.heap.size ≤ k) (hc : Chg X w3 w4) : SkA true W w4 u.g n 1 [] := by
  obtain ⟨rfl, gs, d, u', v', q1, q2, q3, q4, q5, q6, q7, q8, q9⟩ := h
  have hz := hW.size
  refine ⟨d, gs, 1, _, false, ⟨⟨u', v', q1.chg hc (fun k hk hx => ?_), q2, q4.chg hc (fun hx => ?_) (fun k hk hx => ?_), fun k hk => ?_, fun k hk => by have := q6 k hk; omega⟩, ?_, by omega, fun _ _ h => by simp at h⟩, q8, fun _ => q9, DkE.nil hn⟩
  · obtain ⟨h1, h2, _⟩ := hX k hx
    rcases q3 k hk with q | q
    · exact h2 q
    · omega
  · have := (hX gs hx).1; omega
  · have h1 := (hX k hx).1
    have := q6 k hk
    omega
  · rcases q3 k hk with q | q
    · exact hf k q
    · omega
  · exact Below.trans (Below.trans hW (q7.below hz (fun k _ hk => hf k hk))) (hc.below (by have := q7.size; omega) (fun k _ hk => (hX k hk).2.2))
set_option maxHeartbeats 1000000 in
theorem ddo_full (w : World) (kb : Nat) (Ae : Option Addr) (m c : Nat) (hm : 120 < m) :
    Calls Tryz.prog 17 #[.pointer (some ⟨kb, 0, none⟩), .slice Ae m c] w fun e w' => e = .returned (.tuple #[.slice none 0 0, errV 3]) ∧ w = w' := by
  have zm : (120 : Int) < (m : Int) := by omega
  go_enter Tryz.func17, Tryz.ntmps17
  go_wp2
  go_ret2
  exact ⟨rfl, rfl⟩
theorem infoEv : (Tryz.prog.info? 51).map (fun i => (i.zero, i.size, i.bytes)) = some (some (.agg #[.int .i64 0, .int .i64 0, .int .i64 0]), 3, 24) := by kernel_rfl
theorem run_evs : ∃ cs : Array Value, ∀ w : World,
    (Instr.makeSlice 22 (.int .i64 121) (.int .i64 121)).run Tryz.prog w = .ok (.slice (some ⟨w.heap.size, 0, none⟩) 121 121) (w.alloc (.cells cs 51)) := by
  obtain ⟨i, hi, hz0, hz1, hz2⟩ := info_parts infoEv
  refine ⟨madeCells (Value.agg #[.int .i64 0, .int .i64 0, .int .i64 0]).cells (121 * i.size), fun w => ?_⟩
  have := run_make w 22 51 i _ Tryz.underlying22 hi hz0 .i64 .i64 (121 : Int) (121 : Int) (by omega) (Int.le_refl _) (by rw [hz2]; omega) (by omega)
  simpa using this
/-- A desk, its disk aside. -/
def Dsg (W wr : World) (kb n : Nat) (A : List AK.Ed) : Prop :=
  ∃ (gs N : Nat) (G : GrP) (f : AK.Ed → GM.St), Blk wr kb 99 (dkC gs G.gb n) ∧ GrI wr G n N A f ∧ A.length ≤ 200 ∧ W.heap.size ≤ kb ∧ Ext W wr
section
variable {lf : Bool} {W wr w' : World} {gu kb mb n t k c : Nat} {A S B : List AK.Ed} {l : List AK.Ev}
theorem DskA.dsg (h : DskA lf W wr gu kb n t A S) : Dsg W wr kb n A := by
  obtain ⟨d, gs, N, G, f, h1, h2⟩ := h
  exact ⟨gs, N, G, f, h1.blk, h1.g, h1.le, h1.new.2, h1.ext⟩
theorem Dsg.moved (h : Dsg W wr kb n A) (hx : Ext wr w') : Dsg W w' kb n A := by
  obtain ⟨gs, N, G, f, h1, h2, h3, h4, h5⟩ := h
  exact ⟨gs, N, G, f, blk_ext h1 hx, h2.ext hx, h3, h4, h5.trans hx⟩
theorem Dsg.ext (h : Dsg W wr kb n A) : Ext W wr := by obtain ⟨gs, N, G, f, h1, h2, h3, h4, h5⟩ := h; exact h5
theorem Dsg.de (h : Dsg W wr kb n A) : DkE n A := by obtain ⟨gs, N, G, f, h1, h2, h3, h4⟩ := h; exact ⟨h2.m.hn, h2.k.ok, h2.k.up, h3⟩
theorem Dsg.blk (h : Dsg W wr kb n A) : ∃ cs, Blk wr kb 99 cs := by obtain ⟨gs, N, G, f, h1, h2⟩ := h; exact ⟨_, h1⟩
theorem Dsg.new (h : Dsg W wr kb n A) : W.heap.size ≤ kb := by obtain ⟨gs, N, G, f, h1, h2, h3, h4, h5⟩ := h; exact h4
/-- Another desk has turned. -/
theorem Dsg.beside (h : Dsg W wr kb n A) (hb : ∃ cs, Blk wr mb 99 cs) (hmb : W.heap.size ≤ mb) (hne : kb ≠ mb) (hc : Chg (fun k => k = mb) wr w') : Dsg W w' kb n A := by
  obtain ⟨gs, N, G, f, h1, h2, h3, h4, h5⟩ := h
  obtain ⟨cs, hb⟩ := hb
  have hnT : ¬ G.T mb := h2.m.notyp (by decide) hb
  exact ⟨gs, N, G, f, h1.chg hc hne, ⟨h2.m.chg hc (fun k hk e => hnT (e ▸ .inl hk)) (fun i F hi e => hnT (e ▸ .inr ⟨i, F, hi, rfl⟩)) (fun k e cs hb2 => by subst e; exact absurd (blk_ty hb hb2) (by decide)), h2.k, h2.few, h2.nN⟩, h3, h4, Below.trans h5 (hc.below h5.size (fun k _ e => by rw [e]; exact hmb))⟩
theorem ds_graph (h : Dsg W wr kb n A) : Calls Tryz.prog 20 #[.pointer (some ⟨kb, 0, none⟩)] wr (DgPost wr n A) := by
  obtain ⟨gs, N, G, f, h1, h2, h3, h4, h5⟩ := h
  exact dgraph_any wr kb gs n N G A f h1 h2 h3
/-- Do, in one word for all ends. -/
def DsEnd (n : Nat) (l : List AK.Ev) (A A' : List AK.Ed) (xs : List Bool) (er : Value) : Prop := (er = .nilIface ∧ DoneK n l A A' xs) ∨ (∃ k : Nat, er = errV k ∧ FltK n l A k ∧ A' = A ∧ xs = [])
theorem ds_do (h : Dsg W wr kb n A) (Ae : Option Addr) (m c : Nat) (l : List AK.Ev) (hl : l.length = m) (hE : EvRow wr Ae l) (hin : EvIn l) : Calls Tryz.prog 17 #[.pointer (some ⟨kb, 0, none⟩), .slice Ae m c] wr fun e w' =>
    ∃ A' xs er Ao co, e = .returned (.tuple #[.slice Ao xs.length co, er]) ∧ DsEnd n l A A' xs er ∧ w'.ownsRow 0 4 1 (.slice Ao xs.length co) xs.length (bolV xs) ∧ Dsg W w' kb n A' ∧ Chg (fun k => k = kb) wr w' := by
  obtain ⟨gs, N, G, f, h1, h2, h3, h4, h5⟩ := h
  refine (ddo_any wr kb gs n N G A f h1 h2 h3 Ae m c l hl hE hin).mono ?_
  rintro e w' (⟨k, hk, rfl, hx⟩ | ⟨q1, q2, Ao, co, N', G', f', rfl, q3, q4, q5, q6, q7, q8⟩)
  · exact ⟨A, [], _, none, 0, rfl, .inr ⟨k, rfl, hk, rfl, rfl⟩, World.ownsRow_nil _ _ _ _, ⟨gs, N, G, f, blk_ext h1 hx, h2.ext hx, h3, h4, h5.trans hx⟩, Chg.new hx _⟩
  · exact ⟨_, _, _, Ao, co, rfl, .inl ⟨rfl, q1, q2, rfl⟩, q3, ⟨gs, N', G', f', q7, q5, run_le h3 _ q2, h4, Below.trans h5 (q8.below h5.size (fun k _ e => by rw [e]; exact h4))⟩, q8⟩
end
/-- What DeskWhole's loop holds: the other desk, the answers so far. -/
structure DwR (W w9 wr : World) (mb n : Nat) (l : List AK.Ev) (i : Nat) (dn : Bool) (ys : List Bool) (vO : Value) : Prop where
  chg : Chg (fun k => k = mb) w9 wr
  row : wr.ownsRow 0 4 1 vO ys.length (bolV ys)
  new : ∀ j, vO.ownBlock = some j → w9.heap.size ≤ j
  few : l.length ≤ 120 ∨ (i = 0 ∧ dn = true)
  on : dn = true → DS.Okay n l [] i ∧ ∃ B, DS.run n l [] i = (B, ys) ∧ Dsg W wr mb n B
  off : dn = false → ∃ k, FltK n l [] k
theorem drop_ev {w : World} {A : Option Addr} {l : List AK.Ev} (h : EvRow w A l) {i : Nat} {e : AK.Ev} (he : l[i]? = some e) : ∃ b off, A = some ⟨b, off, none⟩ ∧ EvRow w (some ⟨b, off + i * 3, none⟩) [e] := by
  rcases h with h | ⟨b, off, rfl, hb, hc⟩
  · subst h; simp at he
  · refine ⟨b, off, rfl, .inr ⟨b, off + i * 3, rfl, hb, fun j d hj => ?_⟩⟩
    match j, hj with
    | 0, hj => simp at hj; subst hj; simpa using hc i _ he
    | j + 1, hj => simp at hj
theorem open_evslice {H : Type} {enc : TypeId × Value → H} {w : World} {spare : Nat → Bool} {held : Bool} {a : Option Addr} {len cap : Nat} {d : DataW H} {p : List MemPlace} (h : DataW.Trod enc Tryz.prog w 0 spare held 22 (.slice a len cap) d p) : ∃ l : List AK.Ev, EvRow w a l ∧ l.length = len ∧ (len ≤ cap ∧ cap ≤ maxLen) ∧ EvIn l := by
  obtain ⟨fuel, hf⟩ := h
  obtain ⟨A, m, c, l, hv, q1, q2, q3, _, q4⟩ := open_evrow hf
  injection hv with e1 e2 e3
  subst e1; subst e2; subst e3
  exact ⟨l, q1, q2, q3, q4⟩
theorem infoBl : (Tryz.prog.info? 4).map (fun i => (i.zero, i.size, i.bytes)) = some (some (.bool false), 1, 1) := by kernel_rfl
theorem own_none2 {w : World} {base : Nat} {e : TypeId} {size n c m : Nat} {A : Option Addr} {xs : List Value} (h : w.ownsRow base e size (.slice A n c) m xs) (hA : A = none) : n = 0 ∧ c = 0 := by
  subst hA
  rcases h.2 with ⟨h0, _⟩ | ⟨g, cap, cur, h0, _⟩
  · simp at h0; exact h0
  · simp at h0
theorem own_cells {w : World} {A : Option Addr} {c n : Nat} {xs : List Bool} (h : w.ownsRow 0 4 1 (.slice A n c) n (bolV xs)) : ∀ ad, A = some ad → ∀ j u, (bolV xs)[j]? = some u → w.cell? (ad.add j) = some u := by
  intro ad hA j u hu
  subst hA
  have hl : xs.length = n := (BoolsAt.of_own h).2.1
  have hj : j < n := by
    have := (List.getElem?_eq_some_iff.1 hu).1
    simp [bolV] at this; omega
  obtain ⟨g, cap, hv, _, _⟩ := own_form h (by omega)
  simp only [Value.slice.injEq, true_and, Option.some.injEq] at hv
  obtain ⟨rfl, rfl⟩ := hv
  have := h.cellAt j (by omega)
  rw [hu] at this
  rw [Addr.add_mid, Nat.zero_add]
  exact this
theorem bol_one (xs : List Bool) : ∀ u ∈ bolV xs, u.oneCell' = true := by
  intro u hu
  obtain ⟨b, _, rfl⟩ := List.mem_map.1 hu
  rfl
end Go.Proofs.YthgniehfejklhaaGreat

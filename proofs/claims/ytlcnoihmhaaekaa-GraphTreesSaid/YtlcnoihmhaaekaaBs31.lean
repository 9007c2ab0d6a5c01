/-
  Graphs in memory: what an operation may turn; graphs apart. Walks of graph's New, node and forest. Condition: the graph lies in memory as 'GrM' says.
  Walks of graph's New, node and forest. Condition: the graph lies in memory as 'GrM' says.
  Walks of graph's Level, Has, Joined, Size, Parts. Condition: the graph lies in memory as 'GrM' says.
-/
import Derived.Test.YtlcnoihmhaaekaaBs30
import Derived.WalkSpells
import Derived.Lib.Hide
import Derived.Outline
import Derived.Deep.QuietTactic
import Derived.BigQuiet
import Derived.StillTailTactics
namespace Go.Proofs.Ytlcnoihmhaaekaa
open Go Go.RowKit SQ TR DF PD
set_option linter.unusedVariables false

/-- All blocks of a graph. -/
def GrP.T (G : GrP) (k : Nat) : Prop := G.S k ∨ ∃ (i : Nat) (F : FoP), G.Fs[i]? = some F ∧ k = F.fb
/-- What has been done with a graph. -/
structure GrC (w w' : World) (G G' : GrP) : Prop where
  gb : G'.gb = G.gb
  eb : G'.eb = G.eb
  s : ∀ k, G'.S k → G.S k ∨ w.heap.size ≤ k
  t : ∀ k, G'.T k → G.T k ∨ w.heap.size ≤ k
  chg : Chg G.S w w'
section
variable {w w1 w' W : World} {G G1 G' H : GrP} {n N N' : Nat} {A A2 : List AK.Ed} {f f2 : AK.Ed → GM.St} {Es Es2 : Nat → List AK.Ed} {n2 N2 : Nat} {S : Nat → Prop}
theorem GrC.refl (w : World) (G : GrP) : GrC w w G G := ⟨rfl, rfl, fun _ h => .inl h, fun _ h => .inl h, Chg.refl _ _⟩
theorem GrC.trans (h : GrC w w1 G G1) (k : GrC w1 w' G1 G') : GrC w w' G G' :=
  ⟨k.gb.trans h.gb, k.eb.trans h.eb, fun i hi => (k.s i hi).elim (fun x => h.s i x) (fun x => .inr (Nat.le_trans h.chg.size x)), fun i hi => (k.t i hi).elim (fun x => h.t i x) (fun x => .inr (Nat.le_trans h.chg.size x)),
    h.chg.trans k.chg fun i hi hs => (h.s i hs).elim id (fun x => by omega)⟩
theorem GrC.ext (h : GrC w w1 G G1) (hx : Ext w1 w') : GrC w w' G G1 :=
  ⟨h.gb, h.eb, h.s, h.t, h.chg.trans (Chg.of_below hx) fun i hi hs => by have := h.chg.size; omega⟩
theorem GrC.of_ext (hx : Ext w w') (G : GrP) : GrC w w' G G := (GrC.refl w G).ext hx
theorem GrC.pre (hx : Ext w w1) (h : GrC w1 w' G G') : GrC w w' G G' := (GrC.of_ext hx G).trans h
/-- The same blocks, of which some have turned. -/
theorem GrC.same (hc : Chg S w w') (hs : ∀ k, S k → G.S k) : GrC w w' G G := ⟨rfl, rfl, fun _ h => .inl h, fun _ h => .inl h, hc.mono fun k _ h => hs k h⟩
theorem GrM.noseq (h : GrM w G n N A f Es) : ∀ k, G.S k → ∀ cs, ¬ Blk w k 113 cs := by
  obtain ⟨me, m1, m2⟩ := h.edges
  rintro k (rfl | rfl | rfl | ⟨i, F, hi, hk⟩) cs hb
  · exact Blk.ne_ h.blk hb (by decide) rfl
  · exact m1.blk_ne hb rfl
  · exact own_ne h.row hb (by decide) (by simp [GrP.fv, Value.ownBlock])
  · exact (h.fo i F hi).noseq k hk cs hb
theorem GrM.ltT (h : GrM w G n N A f Es) : ∀ k, G.T k → k < w.heap.size := by
  rintro k (hk | ⟨i, F, hi, rfl⟩)
  · exact h.lt k hk
  · exact (h.fo i F hi).lt.1
/-- Another graph stays as it is. -/
theorem GrM.other (h : GrM w H n2 N2 A2 f2 Es2) (hg : GrM w G n N A f Es) (hap : ∀ k, H.T k → ¬ G.T k) (hc : GrC w w' G G') : GrM w' H n2 N2 A2 f2 Es2 ∧ ∀ k, H.T k → ¬ G'.T k :=
  ⟨h.chg hc.chg (fun k hk hs => hap k (.inl hk) (.inl hs)) (fun i F hi hs => hap _ (.inr ⟨i, F, hi, rfl⟩) (.inl hs)) hg.noseq,
   fun k hk hk2 => (hc.t k hk2).elim (hap k hk) (fun x => by have := h.ltT k hk; omega)⟩
theorem GrM.cellF (h : GrM w G n N A f Es) {i : Nat} {F : FoP} (hi : G.Fs[i]? = some F) : w.cell? ⟨G.ob, i, none⟩ = some (.pointer (some ⟨F.fb, 0, none⟩)) := by
  have hl := (List.getElem?_eq_some_iff.1 hi).1
  have h1 : w.ownsRow 0 23 1 (.slice (some ⟨G.ob, 0, none⟩) G.Fs.length G.c) G.Fs.length (ptrF G.Fs) := h.row
  rw [h1.cellAt i (by omega), ptrF, List.getElem?_map, hi]; rfl
theorem GrM.get (h : GrM w G n N A f Es) {i : Nat} (hi : i < G.Fs.length) : ∃ F, G.Fs[i]? = some F := ⟨_, List.getElem?_eq_getElem hi⟩
theorem infoTF : (Try.prog.info? 23).map (fun i => (i.zero, i.size, i.bytes)) = some (some (.pointer none), 1, 8) := by kernel_rfl
/-- A forest more. -/
theorem GrM.more {w5 : World} {o : Obj} {F : FoP} {g c : Nat} (h : GrM w G n N A f Es) (hx : Ext w w1) (hf : FoAt w1 F n n []) (hfb : w.heap.size ≤ F.fb) (hfs : ∀ k, F.S k → w.heap.size ≤ k) (hnN : n ≤ N)
    (ho : w5.ownsRow 0 23 1 (.slice (some ⟨g, 0, none⟩) (G.Fs.length + 1) c) (G.Fs.length + 1) (ptrF G.Fs ++ [.pointer (some ⟨F.fb, 0, none⟩)])) (hc : Chg (fun k => G.fv.ownBlock = some k) (w1.alloc o) w5)
    (hat : G.fv.ownBlock = some g ∨ g = (w1.alloc o).heap.size) :
    Blk w5 G.gb 85 #[.int .i64 n, .map (some G.eb), G.fv] ∧
    GrM (w5.setCell ⟨G.gb, 2, none⟩ (.slice (some ⟨g, 0, none⟩) (G.Fs.length + 1) c)) ⟨G.gb, G.eb, g, c, G.Fs ++ [F]⟩ n N A f (fun i => if i < G.Fs.length then Es i else []) ∧
    GrC w (w5.setCell ⟨G.gb, 2, none⟩ (.slice (some ⟨g, 0, none⟩) (G.Fs.length + 1) c)) G ⟨G.gb, G.eb, g, c, G.Fs ++ [F]⟩ := by
  have hob : ∀ k, G.fv.ownBlock = some k ↔ G.ob = k := fun k => by simp [GrP.fv, Value.ownBlock]
  have hl := h.lt
  have hlg : G.gb < w.heap.size := hl _ (.inl rfl)
  have hle : G.eb < w.heap.size := hl _ (.inr (.inl rfl))
  have hlo : G.ob < w.heap.size := hl _ (.inr (.inr (.inl rfl)))
  have hs1 := hx.size
  have hg : g = G.ob ∨ w1.heap.size < g := by
    rcases hat with hat | hat
    · exact .inl ((hob g).1 hat).symm
    · right; simp at hat; omega
  have hxa : Ext w (w1.alloc o) := hx.trans (Ext.alloc _ _)
  have ha := h.ext hxa
  have hfa : FoAt (w1.alloc o) F n N [] := (hf.ext (Ext.alloc _ _)).mono hnN
  have hflt := hf.lt
  obtain ⟨me, m1, m2⟩ := ha.edges
  have ngo : G.ob ≠ G.gb := fun e => own_ne h.row h.blk (by decide) ((hob _).2 e)
  have neo : G.ob ≠ G.eb := fun e => m1.own_ne ha.row ((hob _).2 e)
  have nge : G.gb ≠ G.eb := m1.blk_ne ha.blk
  have hb5 : Blk w5 G.gb 85 #[.int .i64 n, .map (some G.eb), G.fv] := ha.blk.chg hc (fun e => ngo ((hob _).1 e))
  have hggb : g ≠ G.gb := by rcases hg with e | e <;> omega
  have hgeb : g ≠ G.eb := by rcases hg with e | e <;> omega
  have hcs : Chg (fun k => k = G.gb) w5 (w5.setCell ⟨G.gb, 2, none⟩ (.slice (some ⟨g, 0, none⟩) (G.Fs.length + 1) c)) := chg_at _ _ _ _
  have noseq5 : ∀ k, G.fv.ownBlock = some k → ∀ cs, ¬ Blk (w1.alloc o) k 113 cs := fun k hk => ha.noseq k (.inr (.inr (.inl ((hob k).1 hk).symm)))
  have noseqg : ∀ k, k = G.gb → ∀ cs, ¬ Blk w5 k 113 cs := fun k hk cs hb => by subst hk; exact Blk.ne_ hb5 hb (by decide) rfl
  have hcase : ∀ (i : Nat) (H : FoP), (G.Fs ++ [F])[i]? = some H → G.Fs[i]? = some H ∨ (i = G.Fs.length ∧ H = F) := fun i H hi => by
    rcases Nat.lt_or_ge i G.Fs.length with q | q
    · rw [List.getElem?_append_left q] at hi; exact .inl hi
    · rw [List.getElem?_append_right q] at hi
      have : i - G.Fs.length = 0 := by have := (List.getElem?_eq_some_iff.1 hi).1; simp at this; omega
      rw [this] at hi
      exact .inr ⟨by omega, (Option.some.inj hi).symm⟩
  have hall : Chg G.S w (w5.setCell ⟨G.gb, 2, none⟩ (.slice (some ⟨g, 0, none⟩) (G.Fs.length + 1) c)) :=
    ((Chg.new hxa G.S).trans hc (fun i _ hi => .inr (.inr (.inl ((hob i).1 hi).symm)))).trans hcs (fun i _ hi => .inl hi)
  refine ⟨hb5, ⟨?_, h.hn, ?_, by simp, fun i H hi => ?_, ⟨me, (m1.chg hc (fun e => neo ((hob _).1 e))).chg hcs (fun e => nge e.symm), m2⟩, fun i j H K hi hj hij k hk => ?_, fun i H hi k hk => ?_⟩, ⟨rfl, rfl, ?_, ?_, hall⟩⟩
  · have := hb5.set_ 2 (.slice (some ⟨g, 0, none⟩) (G.Fs.length + 1) c)
    simpa [GrP.fv] using this
  · have e : ptrF (G.Fs ++ [F]) = ptrF G.Fs ++ [.pointer (some ⟨F.fb, 0, none⟩)] := by simp [ptrF]
    have e2 : (GrP.fv ⟨G.gb, G.eb, g, c, G.Fs ++ [F]⟩) = .slice (some ⟨g, 0, none⟩) (G.Fs.length + 1) c := by simp [GrP.fv]
    have e3 : (G.Fs ++ [F]).length = G.Fs.length + 1 := by simp
    rw [e2]
    show World.ownsRow _ 0 _ 1 _ (G.Fs ++ [F]).length (ptrF (G.Fs ++ [F]))
    rw [e, e3]
    exact own_chg ho hcs (fun k hk e => by
      have : g = k := by simpa [Value.ownBlock] using hk
      exact hggb (this.trans e))
  · rcases hcase i H hi with q | ⟨rfl, rfl⟩
    · have hil := (List.getElem?_eq_some_iff.1 q).1
      rw [if_pos hil]
      have a2 := ha.ap2 i H q
      have nfb : H.fb ≠ G.ob := fun e => own_ne ha.row (ha.fo i H q).blk (by decide) ((hob _).2 e.symm)
      have nfg : H.fb ≠ G.gb := Blk.ne_ (ha.fo i H q).blk ha.blk (by decide)
      exact ((ha.fo i H q).chg hc (fun e => nfb ((hob _).1 e).symm) (fun k hk e => (a2 k hk).2.2 ((hob k).1 e).symm) noseq5).chg hcs nfg (fun k hk e => (a2 k hk).1 e) noseqg
    · rw [if_neg (Nat.lt_irrefl _)]
      exact (hfa.chg hc (fun e => by have := (hob _).1 e; omega) (fun k hk e => by have := (hob _).1 e; have := hfs k hk; omega) noseq5).chg hcs (by omega) (fun k hk e => by have := hfs k hk; omega) noseqg
  · rcases hcase i H hi with q | ⟨rfl, rfl⟩
    · rcases hcase j K hj with r | ⟨rfl, rfl⟩
      · exact h.ap i j H K q r hij k hk
      · have hk2 := (h.fo i H q).lt.2 k hk
        exact ⟨fun x => by have := hfs k x; omega, by omega⟩
    · rcases hcase j K hj with r | ⟨rfl, rfl⟩
      · have hk2 := hfs k hk
        have hl2 := (h.fo j K r).lt
        exact ⟨fun x => by have := hl2.2 k x; omega, by omega⟩
      · exact absurd rfl hij
  · rcases hcase i H hi with q | ⟨rfl, rfl⟩
    · have a2 := h.ap2 i H q k hk
      have hk2 := (h.fo i H q).lt.2 k hk
      exact ⟨a2.1, a2.2.1, by rcases hg with e | e; exact e ▸ a2.2.2; show k ≠ g; omega⟩
    · have hk2 := hfs k hk
      have hk3 := hflt.2 k hk
      exact ⟨by show k ≠ G.gb; omega, by show k ≠ G.eb; omega, by show k ≠ g; rcases hg with e | e <;> omega⟩
  · rintro k (e | e | e | ⟨i, H, hi, hk⟩)
    · exact .inl (.inl e)
    · exact .inl (.inr (.inl e))
    · have e : k = g := e
      rcases hg with q | q
      · exact .inl (.inr (.inr (.inl (e.trans q))))
      · right; omega
    · rcases hcase i H hi with q | ⟨rfl, rfl⟩
      · exact .inl (.inr (.inr (.inr ⟨i, H, q, hk⟩)))
      · exact .inr (hfs k hk)
  · rintro k ((e | e | e | ⟨i, H, hi, hk⟩) | ⟨i, H, hi, rfl⟩)
    · exact .inl (.inl (.inl e))
    · exact .inl (.inl (.inr (.inl e)))
    · have e : k = g := e
      rcases hg with q | q
      · exact .inl (.inl (.inr (.inr (.inl (e.trans q)))))
      · right; omega
    · rcases hcase i H hi with q | ⟨rfl, rfl⟩
      · exact .inl (.inl (.inr (.inr (.inr ⟨i, H, q, hk⟩))))
      · exact .inr (hfs k hk)
    · rcases hcase i H hi with q | ⟨rfl, rfl⟩
      · exact .inl (.inr ⟨i, H, q, rfl⟩)
      · exact .inr hfb
end
end Go.Proofs.Ytlcnoihmhaaekaa
namespace Go.Proofs.Ytlcnoihmhaaekaa
open Go Go.RowKit SQ TR DF PD
set_option linter.unusedVariables false

set_option maxHeartbeats 1000000 in
theorem gnew_no (w : World) (n : Int) (h : n < 1 ∨ 60 < n) : Calls Try.prog 16 #[.int .i64 n] w fun e w' => e = .returned (.tuple #[.pointer none, errV 1]) ∧ w = w' := by
  go_enter Try.func16, Try.ntmps16
  go_wp2_with fail
  refine (tnew_no w n h).mono ?_
  rintro e w1 ⟨rfl, rfl⟩
  go_wp2
  go_ret2
  exact ⟨rfl, rfl⟩
def GNewPost (w : World) (n : Nat) (e : Ending) (w' : World) : Prop := ∃ G : GrP, e = .returned (.tuple #[.pointer (some ⟨G.gb, 0, none⟩), .nilIface]) ∧ (∀ f, GrM w' G n n [] f (fun _ => [])) ∧ G.Fs.length = 1 ∧ Ext w w' ∧ ∀ k, G.T k → w.heap.size ≤ k
theorem gnew_post {w w1 : World} {n : Nat} {F : FoP} (hn : 1 ≤ n ∧ n ≤ 60) (hf : FoAt w1 F n n []) (hx : Ext w w1) (hfb : w.heap.size ≤ F.fb) (hfs : ∀ k, F.S k → w.heap.size ≤ k) (w4 : World)
    (hw : w4 = ((w1.alloc (.map #[] 0)).alloc (.cells #[.pointer (some ⟨F.fb, 0, none⟩)] 23)).alloc (.cells #[.int .i64 n, .map (some w1.heap.size), .slice (some ⟨w1.heap.size + 1, 0, none⟩) 1 1] 85)) :
    ∃ G : GrP, G.gb = w1.heap.size + 2 ∧ (∀ f, GrM w4 G n n [] f (fun _ => [])) ∧ G.Fs.length = 1 ∧ Ext w w4 ∧ ∀ k, G.T k → w.heap.size ≤ k := by
  have hs := hx.size
  have hl := hf.lt
  have x1 : Ext w1 (w1.alloc (.map #[] 0)) := Ext.alloc _ _
  have x2 : Ext w1 ((w1.alloc (.map #[] 0)).alloc (.cells #[.pointer (some ⟨F.fb, 0, none⟩)] 23)) := x1.trans (Ext.alloc _ _)
  have x4 : Ext w1 w4 := hw ▸ x2.trans (Ext.alloc _ _)
  have e1 : (w1.alloc (.map #[] 0)).heap.size = w1.heap.size + 1 := by simp
  have e2 : ((w1.alloc (.map #[] 0)).alloc (.cells #[.pointer (some ⟨F.fb, 0, none⟩)] 23)).heap.size = w1.heap.size + 2 := by simp
  have hfi : ∀ (i : Nat) (H : FoP), ([F] : List FoP)[i]? = some H → i = 0 ∧ H = F := fun i H hi => by
    have : i = 0 := by have := (List.getElem?_eq_some_iff.1 hi).1; simp at this; omega
    subst this; exact ⟨rfl, by simpa using hi.symm⟩
  refine ⟨⟨w1.heap.size + 2, w1.heap.size, w1.heap.size + 1, 1, [F]⟩, rfl, fun f => ⟨?_, hn, ?_, by simp, fun i H hi => ?_, ⟨fun _ => none, ?_, fun x _ => by simp⟩, fun i j H K hi hj hij => ?_, fun i H hi k hk => ?_⟩, rfl, hx.trans x4, ?_⟩
  · have := Blk.new ((w1.alloc (.map #[] 0)).alloc (.cells #[.pointer (some ⟨F.fb, 0, none⟩)] 23)) 85 #[.int .i64 n, .map (some w1.heap.size), .slice (some ⟨w1.heap.size + 1, 0, none⟩) 1 1]
    rw [e2, ← hw] at this
    exact this
  · have := World.ownsRow_lit (w1.alloc (.map #[] 0)) #[.pointer (some ⟨F.fb, 0, none⟩)] (e := 23) (size := 1) (base := 0) 1 (Nat.zero_le _) (by unfold maxLen; omega) rfl
    rw [e1] at this
    have h2 := own_chg this (Chg.of_below (Ext.alloc _ (.cells #[.int .i64 n, .map (some w1.heap.size), .slice (some ⟨w1.heap.size + 1, 0, none⟩) 1 1] 85))) (fun k hk => by have := own_lt this hk; omega)
    rw [← hw] at h2
    exact h2
  · obtain ⟨_, rfl⟩ := hfi i H hi
    exact hf.ext x4
  · have h3 := (VM.made kE w1).ext (((Below.refl (w1.alloc (.map #[] 0)).heap.size (w1.alloc (.map #[] 0))).alloc (Nat.le_refl _) (.cells #[.pointer (some ⟨F.fb, 0, none⟩)] 23)).alloc (by simp) (.cells #[.int .i64 n, .map (some w1.heap.size), .slice (some ⟨w1.heap.size + 1, 0, none⟩) 1 1] 85))
    rw [← hw] at h3
    exact h3.mono (Nat.zero_le _)
  · have := (hfi i H hi).1; have := (hfi j K hj).1; omega
  · obtain ⟨_, rfl⟩ := hfi i H hi
    have := hl.2 k hk
    exact ⟨by show k ≠ w1.heap.size + 2; omega, by show k ≠ w1.heap.size; omega, by show k ≠ w1.heap.size + 1; omega⟩
  · rintro k ((e | e | e | ⟨i, H, hi, hk⟩) | ⟨i, H, hi, rfl⟩)
    · have e : k = w1.heap.size + 2 := e
      omega
    · have e : k = w1.heap.size := e
      omega
    · have e : k = w1.heap.size + 1 := e
      omega
    · obtain ⟨_, rfl⟩ := hfi i H hi
      exact hfs k hk
    · obtain ⟨_, rfl⟩ := hfi i H hi
      exact hfb
set_option maxHeartbeats 1000000 in
theorem gnew_ok (w : World) (n : Nat) (hn : 1 ≤ n ∧ n ≤ 60) : Calls Try.prog 16 #[.int .i64 n] w (GNewPost w n) := by
  have hmm := @run_makeMap Try.prog
  go_enter Try.func16, Try.ntmps16
  go_wp2_with fail
  refine (tnew_ok w n hn).mono ?_
  rintro e w1 ⟨F, rfl, hf1, hx1, hfb, hfs⟩
  obtain ⟨F0, hF0⟩ : ∃ F0, F.fb = F0 := ⟨_, rfl⟩
  have HP := Lib.hid (gnew_post hn hf1 hx1 hfb hfs _ rfl)
  rw [hF0] at HP ⊢
  clear hf1 hx1 hfb hfs
  go_wp2
  go_ret2
  obtain ⟨G, g1, g2, g3, g4, g5⟩ := HP.out
  exact ⟨G, congrArg (fun z => Ending.returned (.tuple #[.pointer (some ⟨z, 0, none⟩), .nilIface])) g1.symm, g2, g3, g4, g5⟩
section
variable {w : World} {G : GrP} {n N : Nat} {A : List AK.Ed} {f : AK.Ed → GM.St} {Es : Nat → List AK.Ed}
set_option maxHeartbeats 400000 in
theorem gnode_any (h : GrM w G n N A f Es) (a : Int) (r : Bool) (hr : r = decide (0 ≤ a ∧ a < n)) :
    Calls Try.prog 43 #[.pointer (some ⟨G.gb, 0, none⟩), .int .i64 a] w fun e w' => e = .returned (.bool r) ∧ w = w' := by
  have c1 : w.cell? ⟨G.gb, 0, none⟩ = some (.int .i64 n) := h.blk.cell 0
  subst hr
  clear h
  by_cases h1 : 0 ≤ a
  · by_cases h2 : a < n
    · have q : decide (0 ≤ a ∧ a < (n : Int)) = true := by simp; omega
      rw [q]
      go_enter Try.func43, Try.ntmps43
      go_wp2
      go_ret
      exact ⟨rfl, rfl⟩
    · have q : decide (0 ≤ a ∧ a < (n : Int)) = false := by simp; omega
      rw [q]
      go_enter Try.func43, Try.ntmps43
      go_wp2
      go_ret
      exact ⟨rfl, rfl⟩
  · have q : decide (0 ≤ a ∧ a < (n : Int)) = false := by simp; omega
    rw [q]
    go_enter Try.func43, Try.ntmps43
    go_wp2
    go_ret
    exact ⟨rfl, rfl⟩
def ForPost (w : World) (G : GrP) (n N : Nat) (A : List AK.Ed) (f : AK.Ed → GM.St) (Es : Nat → List AK.Ed) (lv : Nat) (e : Ending) (w' : World) : Prop := ∃ (G' : GrP) (F : FoP), e = .returned (.tuple #[.pointer (some ⟨F.fb, 0, none⟩), .nilIface]) ∧ G'.Fs[lv]? = some F ∧ GrM w' G' n N A f (fun i => if i < G.Fs.length then Es i else []) ∧ GrC w w' G G' ∧ G.Fs.length ≤ G'.Fs.length ∧ G'.Fs.length ≤ lv + 1 + G.Fs.length ∧ (G'.Fs.length = G.Fs.length ∨ (G'.Fs.length = G.Fs.length + 1 ∧ lv = G.Fs.length))
def lenAt (wr : World) (G : GrP) : Nat := match wr.cell? ⟨G.gb, 2, none⟩ with | some (.slice _ m _) => G.Fs.length + 1 - m | _ => 0
set_option maxRecDepth 100000 in
set_option maxHeartbeats 2000000 in
theorem gforest_any (h : GrM w G n N A f Es) (hnN : n ≤ N) (lv : Nat) (hlv : lv ≤ G.Fs.length) (h8 : G.Fs.length ≤ 20) :
    Calls Try.prog 64 #[.pointer (some ⟨G.gb, 0, none⟩), .int .i64 lv] w (ForPost w G n N A f Es lv) := by
  have h60 := h.hn
  have hpos := h.pos
  by_cases hc : lv < G.Fs.length
  · obtain ⟨F, hF⟩ := h.get hc
    have c2 : w.cell? ⟨G.gb, 2, none⟩ = some (.slice (some ⟨G.ob, 0, none⟩) G.Fs.length G.c) := h.blk.cell 2
    have c3 := h.cellF hF
    have z1 : ¬ (G.Fs.length : Int) ≤ (lv : Int) := by omega
    have z2 : (lv : Int) < (G.Fs.length : Int) := by omega
    have H := Lib.hid (h.congr (Es' := fun i => if i < G.Fs.length then Es i else []) (fun i hi => if_pos hi))
    clear h
    go_enter Try.func64, Try.ntmps64
    go_wp2
    go_loopw [] (fun wr => wr = w) (fun _ => 0)
    case atStart => rfl
    case round =>
      subst hrel
      go_wp2
      go_ret2
      exact ⟨G, F, rfl, hF, H.out, GrC.refl _ _, Nat.le_refl _, by omega, .inl rfl⟩
  · obtain rfl : lv = G.Fs.length := by omega
    have H0 := Lib.hid h
    obtain ⟨L, hL⟩ : ∃ L, G.Fs.length = L := ⟨_, rfl⟩
    have HL := Lib.hid hL
    rw [hL] at hlv hc h8 hpos ⊢
    clear hlv hc h
    clear hL
    go_enter Try.func64, Try.ntmps64
    go_wp2
    go_loopw [6] (fun _ wr => (wr = w ∨ ∃ (G' : GrP) (F : FoP), G'.Fs[L]? = some F ∧ G'.Fs.length = L + 1 ∧ G'.gb = G.gb ∧ Hid (GrM wr G' n N A f (fun i => if i < L then Es i else []) ∧ GrC w wr G G'))) (fun _ wr => lenAt wr G)
    case atStart => exact .inl rfl
    case round =>
      rcases hrel with rfl | ⟨G', F, hF, hl', hgb, HR⟩
      · have hb := H0.out.blk
        have c2 : wr.cell? ⟨G.gb, 2, none⟩ = some (.slice (some ⟨G.ob, 0, none⟩) G.Fs.length G.c) := hb.cell 2
        have c0 : wr.cell? ⟨G.gb, 0, none⟩ = some (.int .i64 n) := hb.cell 0
        have hm0 : lenAt wr G = 1 := by unfold lenAt; rw [c2]; simp
        rw [HL.out] at c2
        clear hb
        go_wp2_with fail
        refine (tnew_ok wr n h60).mono ?_
        rintro e w1 ⟨F, rfl, hf1, hx1, hfb, hfs⟩
        have HN : Hid (FoAt w1 F n n [] ∧ Ext wr w1 ∧ wr.heap.size ≤ F.fb ∧ ∀ k, F.S k → wr.heap.size ≤ k) := ⟨hf1, hx1, hfb, hfs⟩
        have H1 := Lib.hid (H0.out.ext hx1)
        have hbl := H1.out.blk.lt
        have e2 : w1.cell? ⟨G.gb, 2, none⟩ = some (.slice (some ⟨G.ob, 0, none⟩) L G.c) := by rw [← HL.out]; exact H1.out.blk.cell 2
        have e3 : ∀ o, (w1.alloc o).cell? ⟨G.gb, 2, none⟩ = some (.slice (some ⟨G.ob, 0, none⟩) L G.c) := fun o => by rw [← HL.out]; exact (H1.out.blk.alloc o).cell 2
        have HROW : Hid (∀ o, (w1.alloc o).ownsRow 0 23 1 (.slice (some ⟨G.ob, 0, none⟩) L G.c) L (ptrF G.Fs)) := fun o => by have := (H1.out.ext (Ext.alloc _ o)).row; unfold GrP.fv at this; rw [HL.out] at this; exact this
        have HSTEP : Hid (∀ (g5 c5 : Nat) (w5 : World) (o : Obj), w5.ownsRow 0 23 1 (.slice (some ⟨g5, 0, none⟩) (L + 1) c5) (L + 1) (ptrF G.Fs ++ [.pointer (some ⟨F.fb, 0, none⟩)]) → Chg (fun k => (Value.slice (some ⟨G.ob, 0, none⟩) L G.c).ownBlock = some k) (w1.alloc o) w5 → ((Value.slice (some ⟨G.ob, 0, none⟩) L G.c).ownBlock = some g5 ∨ g5 = (w1.alloc o).heap.size) →
            w5.cell? ⟨G.gb, 2, none⟩ = some (.slice (some ⟨G.ob, 0, none⟩) L G.c) ∧ w5.frozen? ⟨G.gb, 2, none⟩ = false ∧ lenAt (w5.setCell ⟨G.gb, 2, none⟩ (.slice (some ⟨g5, 0, none⟩) (L + 1) c5)) G = 0 ∧
            ∃ (G' : GrP), G'.Fs[L]? = some F ∧ G'.Fs.length = L + 1 ∧ G'.gb = G.gb ∧ GrM (w5.setCell ⟨G.gb, 2, none⟩ (.slice (some ⟨g5, 0, none⟩) (L + 1) c5)) G' n N A f (fun i => if i < L then Es i else []) ∧ GrC wr (w5.setCell ⟨G.gb, 2, none⟩ (.slice (some ⟨g5, 0, none⟩) (L + 1) c5)) G G') := by
          intro g5 c5 w5 o a1 a2 a3
          rw [← HL.out] at a1 a2 a3 ⊢
          have hh := H0.out.more HN.out.2.1 HN.out.1 HN.out.2.2.1 HN.out.2.2.2 hnN a1 a2 a3
          have hb := hh.1.set_ 2 (.slice (some ⟨g5, 0, none⟩) (G.Fs.length + 1) c5)
          refine ⟨hh.1.cell 2, hh.1.frozen 2, ?_, ⟨G.gb, G.eb, g5, c5, G.Fs ++ [F]⟩, ?_, ?_, rfl, hh.2.1, hh.2.2⟩
          · unfold lenAt; rw [hb.cell 2]; simp
          · show (G.Fs ++ [F])[G.Fs.length]? = some F; simp
          · show (G.Fs ++ [F]).length = G.Fs.length + 1; simp
        clear hf1 hx1 hfb hfs c0 c2
        go_wp2_with (at_builtin; refine wpList_push _ rfl (.tmp 30) (.tmp 32) 83 rfl 23 (.pointer none) 8 Try.underlying83 infoTF rfl (.slice (some ⟨G.ob, 0, none⟩) L G.c) L (ptrF G.Fs) rfl (HROW.out _) ⟨by have := HL.out; omega, by omega⟩ (.pointer (some ⟨F.fb, 0, none⟩)) w1.heap.size rfl (cell_new1 rfl _ _) rfl ?_; intro g5 c5 w5 ho5 hc5 hat5 _; have HP := Lib.hid (HSTEP.out g5 c5 w5 _ ho5 hc5 hat5); have q1 : w5.cell? ⟨G.gb, 2, none⟩ = some (.slice (some ⟨G.ob, 0, none⟩) L G.c) := HP.out.1; have q2 : w5.frozen? ⟨G.gb, 2, none⟩ = false := HP.out.2.1; clear ho5 hc5 hat5)
        go_roundw
        case rel =>
          obtain ⟨_, _, _, G', b1, b2, b3, b4, b5⟩ := HP.out
          exact .inr ⟨G', F, b1, b2, b3, ⟨b4, b5⟩⟩
        case measure => rw [hm0, HP.out.2.2.1]; omega
      · obtain ⟨m, hm⟩ : ∃ m, G'.Fs.length = m := ⟨_, rfl⟩
        have c2 : wr.cell? ⟨G.gb, 2, none⟩ = some (.slice (some ⟨G'.ob, 0, none⟩) m G'.c) := by rw [← hgb, ← hm]; exact HR.out.1.blk.cell 2
        have c3 := HR.out.1.cellF hF
        have HX : Hid (G.Fs.length = L ∧ G'.Fs.length = m ∧ m = L + 1 ∧ G'.Fs[L]? = some F) := ⟨HL.out, hm, by omega, hF⟩
        have z1 : ¬ (m : Int) ≤ (L : Int) := by omega
        have z2 : (L : Int) < (m : Int) := by omega
        clear hm hF hl' hgb H0
        go_wp2
        go_ret2
        obtain ⟨x1, x2, x3, x4⟩ := HX.out
        refine ⟨G', F, rfl, x4, by rw [x1]; exact HR.out.1, HR.out.2, by omega, by omega, .inr ⟨by omega, by omega⟩⟩
end
end Go.Proofs.Ytlcnoihmhaaekaa
namespace Go.Proofs.Ytlcnoihmhaaekaa
open Go Go.RowKit SQ TR DF PD
set_option linter.unusedVariables false

theorem step_look {P : Program} (w : World) {ops : Array Oper} {o : Oper} {a : Act} {K : Act → World → Prop} {Q : Exit → Act → World → Prop} {Z : Prop} (hgd : o.guard = none) (m x : Operand) (t : TypeId) (ok : Bool)
    (ho : o.op = Op.lookup t m x ok) (vm vx v : Value) (hm : a.eval m = vm) (hx : a.eval x = vx) (hr : (Instr.lookup t vm vx ok).run P w = .ok v w) (h : K (a.put o.dst v) w) :
    if Region.wanted o (yielded ops a.tmps) = true then Oper.wp P o a w K Q else Z := by
  have hw : Region.wanted o (yielded ops a.tmps) = true := by simp [Region.wanted, hgd]
  rw [if_pos hw]
  unfold Oper.wp
  simp [execOp, ho, hm, hx, hr, Result.andThen]
  exact h
theorem zeroState (w : World) : (zeroValue 87).run Try.prog w = .ok (.agg #[.int .i64 0, .bool false]) w := by kernel_rfl
theorem Ext.set_ {w W : World} (h : Ext w W) {p : Addr} (hp : w.heap.size ≤ p.block) (v : Value) : Ext w (W.setCell p v) := Below.setCell h hp v
theorem keepS {w W : World} {P : World → Prop} (H : ∀ W, Ext w W → P W) (hE : Ext w W) : Ext w W ∧ P W := ⟨hE, H W hE⟩
section
variable {w : World} {G : GrP} {n N : Nat} {A : List AK.Ed} {f : AK.Ed → GM.St} {Es : Nat → List AK.Ed}
theorem okE_ek {a b : Int} (ha : 0 ≤ a ∧ a ≤ 1000) (hb : 0 ≤ b ∧ b ≤ 1000) : okE (AK.ek a b) := okE_of (by unfold AK.ek; simp only; omega) (by unfold AK.ek; simp only; omega)
theorem GrM.look_ok (h : GrM w G n N A f Es) (x : AK.Ed) (hx : okE x) {z : Value} {ok : Bool} (hz : (if x ∈ A then stV (f x) else .agg #[.int .i64 0, .bool false]) = z) (hk : decide (x ∈ A) = ok) : (Instr.lookup 82 (.map (some G.eb)) (edV x) true).run Try.prog w = .ok (.tuple #[z, .bool ok]) w := by
  obtain ⟨me, m1, m2⟩ := h.edges
  have : (Instr.lookup 82 (.map (some G.eb)) (edV x) true).run Try.prog w = _ := m1.look_ok Try.underlying82 (zeroState _) x hx
  rw [m2 x hx] at this
  subst hz; subst hk
  by_cases q : x ∈ A
  · rw [if_pos q] at this ⊢; simpa [q] using this
  · rw [if_neg q] at this ⊢; simpa [q] using this
theorem GrM.look (h : GrM w G n N A f Es) (x : AK.Ed) (hx : okE x) {z : Value} (hz : (if x ∈ A then stV (f x) else .agg #[.int .i64 0, .bool false]) = z) : (Instr.lookup 82 (.map (some G.eb)) (edV x) false).run Try.prog w = .ok z w := by
  obtain ⟨me, m1, m2⟩ := h.edges
  have : (Instr.lookup 82 (.map (some G.eb)) (edV x) false).run Try.prog w = _ := m1.look Try.underlying82 (zeroState _) x hx
  rw [m2 x hx] at this
  subst hz
  by_cases q : x ∈ A
  · rw [if_pos q] at this ⊢; simpa using this
  · rw [if_neg q] at this ⊢; simpa using this
set_option maxRecDepth 100000 in
set_option maxHeartbeats 2000000 in
theorem glevel_ok (h : GrM w G n N A f Es) (a b : Nat) (ha : a < n) (hb : b < n) (hm : AK.ek a b ∈ A) :
    Calls Try.prog 26 #[.pointer (some ⟨G.gb, 0, none⟩), .int .i64 a, .int .i64 b] w fun e w' => e = .returned (.tuple #[.int .i64 ((f (AK.ek a b)).lv : Nat), .nilIface]) ∧ Ext w w' := by
  have h60 := h.hn
  have c1 : w.cell? ⟨G.gb, 1, none⟩ = some (.map (some G.eb)) := h.blk.cell 1
  have hlt := h.blk.lt
  have N1 := Lib.hid (gnode_any h a true (by simp [ha]))
  have N2 := Lib.hid (gnode_any h b true (by simp [hb]))
  obtain ⟨s, hs⟩ : ∃ s, f (AK.ek a b) = s := ⟨_, rfl⟩
  have LK : Hid (∀ W, Ext w W → (Instr.lookup 82 (.map (some G.eb)) (edV (AK.ek a b)) true).run Try.prog W = .ok (.tuple #[.agg #[.int .i64 s.lv, .bool s.tr], .bool true]) W) := fun W hW =>
    (h.ext hW).look_ok _ (okE_ek (by omega) (by omega)) (by rw [if_pos hm, hs]; rfl) (by simp [hm])
  rw [hs]
  clear h hm hs
  go_enter Try.func26, Try.ntmps26
  go_wp2_with fail
  refine N1.out.mono ?_
  rintro e w' ⟨rfl, rfl⟩
  go_wp2_with fail
  refine N2.out.mono ?_
  rintro e w' ⟨rfl, rfl⟩
  go_wp2
  have KG : Hid (∀ W, Ext w W → W.cell? ⟨G.gb, 1, none⟩ = some (.map (some G.eb)) ∧ (Instr.lookup 82 (.map (some G.eb)) (edV (AK.ek a b)) true).run Try.prog W = .ok (.tuple #[.agg #[.int .i64 s.lv, .bool s.tr], .bool true]) W) := fun W hW => ⟨(hW.cell (p := ⟨G.gb, 1, none⟩) hlt).trans c1, LK.out W hW⟩
  go_region_held3 (fun w' => Ext w w' ∧ w'.cell? ⟨G.gb, 1, none⟩ = some (.map (some G.eb)) ∧ (Instr.lookup 82 (.map (some G.eb)) (edV (AK.ek a b)) true).run Try.prog w' = .ok (.tuple #[.agg #[.int .i64 s.lv, .bool s.tr], .bool true]) w')
    ((refine keepS KG.out ?_; first | assumption | exact fst_ (by assumption) | exact Ext.trans (by assumption) (Ext.alloc _ _) | exact Ext.drew _ | exact (Ext.alloc _ _).trans (Ext.drew _) | exact Ext.set_ (Ext.set_ (by assumption) (Nat.le_refl _) _) (Nat.le_refl _) _ | exact Ext.trans (fst_ (by assumption)) (by assumption) | (trace_state; fail)))
    (first
      | (go_at_call 36; refine (of_any _ (a : Int) (b : Int)).mono ?_; rintro e w7 ⟨rfl, hb7⟩; first | have X7 : Ext w w7 := Ext.trans (Ext.drew _) hb7 | (have X7 : Ext w w7 := Ext.trans ((Ext.alloc _ _).trans (Ext.drew _)) hb7; have B7 : Blk w7 w.heap.size 87 #[.int .i64 0, .bool false] := ((Blk.new w _ _).drew).chg (Chg.of_below hb7) (by simp); have y0 := B7.cell 0; have y1 := B7.cell 1; have f0 := B7.frozen 0; have f1 := B7.frozen 1))
      | fail)
  go_wp2
  all_goals go_ret2
  all_goals exact ⟨rfl, fst_ (by assumption)⟩
set_option maxHeartbeats 1000000 in
theorem glevel_range (h : GrM w G n N A f Es) (a b : Int) (hr : ¬ (0 ≤ a ∧ a < n) ∨ ¬ (0 ≤ b ∧ b < n)) :
    Calls Try.prog 26 #[.pointer (some ⟨G.gb, 0, none⟩), .int .i64 a, .int .i64 b] w fun e w' => e = .returned (.tuple #[.int .i64 0, errV 1]) ∧ w = w' := by
  by_cases ha : 0 ≤ a ∧ a < n
  · have hb : ¬ (0 ≤ b ∧ b < n) := by omega
    have h1 := Lib.hid (gnode_any h a true (by simp [ha]))
    have h2 := Lib.hid (gnode_any h b false (by simp only [hb, decide_false]))
    clear hr ha hb h
    go_enter Try.func26, Try.ntmps26
    go_wp2_with fail
    refine h1.out.mono ?_
    rintro e w' ⟨rfl, rfl⟩
    go_wp2_with fail
    refine h2.out.mono ?_
    rintro e w' ⟨rfl, rfl⟩
    go_wp2
    go_ret2
    exact ⟨rfl, rfl⟩
  · have h1 := Lib.hid (gnode_any h a false (by simp only [ha, decide_false]))
    clear hr ha h
    go_enter Try.func26, Try.ntmps26
    go_wp2_with fail
    refine h1.out.mono ?_
    rintro e w' ⟨rfl, rfl⟩
    go_wp2
    go_ret2
    exact ⟨rfl, rfl⟩
set_option maxRecDepth 100000 in
set_option maxHeartbeats 2000000 in
theorem glevel_none (h : GrM w G n N A f Es) (a b : Nat) (ha : a < n) (hb : b < n) (hm : AK.ek a b ∉ A) :
    Calls Try.prog 26 #[.pointer (some ⟨G.gb, 0, none⟩), .int .i64 a, .int .i64 b] w fun e w' => e = .returned (.tuple #[.int .i64 0, errV 4]) ∧ Ext w w' := by
  have h60 := h.hn
  have c1 : w.cell? ⟨G.gb, 1, none⟩ = some (.map (some G.eb)) := h.blk.cell 1
  have hlt := h.blk.lt
  have N1 := Lib.hid (gnode_any h a true (by simp [ha]))
  have N2 := Lib.hid (gnode_any h b true (by simp [hb]))
  have LK : Hid (∀ W, Ext w W → (Instr.lookup 82 (.map (some G.eb)) (edV (AK.ek a b)) true).run Try.prog W = .ok (.tuple #[.agg #[.int .i64 0, .bool false], .bool false]) W) := fun W hW =>
    (h.ext hW).look_ok _ (okE_ek (by omega) (by omega)) (by rw [if_neg hm]) (by simp [hm])
  clear h hm
  go_enter Try.func26, Try.ntmps26
  go_wp2_with fail
  refine N1.out.mono ?_
  rintro e w' ⟨rfl, rfl⟩
  go_wp2_with fail
  refine N2.out.mono ?_
  rintro e w' ⟨rfl, rfl⟩
  go_wp2
  have KG : Hid (∀ W, Ext w W → W.cell? ⟨G.gb, 1, none⟩ = some (.map (some G.eb)) ∧ (Instr.lookup 82 (.map (some G.eb)) (edV (AK.ek a b)) true).run Try.prog W = .ok (.tuple #[.agg #[.int .i64 0, .bool false], .bool false]) W) := fun W hW => ⟨(hW.cell (p := ⟨G.gb, 1, none⟩) hlt).trans c1, LK.out W hW⟩
  go_region_held3 (fun w' => Ext w w' ∧ w'.cell? ⟨G.gb, 1, none⟩ = some (.map (some G.eb)) ∧ (Instr.lookup 82 (.map (some G.eb)) (edV (AK.ek a b)) true).run Try.prog w' = .ok (.tuple #[.agg #[.int .i64 0, .bool false], .bool false]) w')
    ((refine keepS KG.out ?_; first | assumption | exact fst_ (by assumption) | exact Ext.trans (by assumption) (Ext.alloc _ _) | exact Ext.drew _ | exact (Ext.alloc _ _).trans (Ext.drew _) | exact Ext.set_ (Ext.set_ (by assumption) (Nat.le_refl _) _) (Nat.le_refl _) _ | exact Ext.trans (fst_ (by assumption)) (by assumption) | (trace_state; fail)))
    (first
      | (go_at_call 36; refine (of_any _ (a : Int) (b : Int)).mono ?_; rintro e w7 ⟨rfl, hb7⟩; first | have X7 : Ext w w7 := Ext.trans (Ext.drew _) hb7 | (have X7 : Ext w w7 := Ext.trans ((Ext.alloc _ _).trans (Ext.drew _)) hb7; have B7 : Blk w7 w.heap.size 87 #[.int .i64 0, .bool false] := ((Blk.new w _ _).drew).chg (Chg.of_below hb7) (by simp); have y0 := B7.cell 0; have y1 := B7.cell 1; have f0 := B7.frozen 0; have f1 := B7.frozen 1))
      | fail)
  go_wp2
  all_goals go_ret2
  all_goals exact ⟨rfl, fst_ (by assumption)⟩
set_option maxHeartbeats 1000000 in
theorem gjoined_range (h : GrM w G n N A f Es) (a b : Int) (hr : ¬ (0 ≤ a ∧ a < n) ∨ ¬ (0 ≤ b ∧ b < n)) :
    Calls Try.prog 25 #[.pointer (some ⟨G.gb, 0, none⟩), .int .i64 a, .int .i64 b] w fun e w' => e = .returned (.tuple #[.bool false, errV 1]) ∧ w = w' := by
  obtain ⟨F, hF⟩ := h.get h.pos
  have c2 : w.cell? ⟨G.gb, 2, none⟩ = some (.slice (some ⟨G.ob, 0, none⟩) G.Fs.length G.c) := h.blk.cell 2
  have c3 := h.cellF hF
  have hpos : (0 : Int) < (G.Fs.length : Int) := by have := h.pos; omega
  have HT := Lib.hid (tsame_range (h.fo 0 F hF) a b hr)
  clear h hr
  go_enter Try.func25, Try.ntmps25
  go_wp2_with fail
  refine HT.out.mono ?_
  rintro e w' ⟨rfl, rfl⟩
  go_wp2
  go_ret2
  exact ⟨rfl, rfl⟩
set_option maxHeartbeats 1000000 in
theorem gjoined_ok (h : GrM w G n N A f Es) (a b : Nat) (ha : a < n) (hb : b < n) (t : Bool) (ht : t = true ↔ Cn (adj (Es 0)) a b) :
    Calls Try.prog 25 #[.pointer (some ⟨G.gb, 0, none⟩), .int .i64 a, .int .i64 b] w fun e w' => e = .returned (.tuple #[.bool t, .nilIface]) ∧ Ext w w' := by
  obtain ⟨F, hF⟩ := h.get h.pos
  have c2 : w.cell? ⟨G.gb, 2, none⟩ = some (.slice (some ⟨G.ob, 0, none⟩) G.Fs.length G.c) := h.blk.cell 2
  have c3 := h.cellF hF
  have hpos : (0 : Int) < (G.Fs.length : Int) := by have := h.pos; omega
  have HT := Lib.hid (tsame_ok (h.fo 0 F hF) a b ha hb t ht)
  clear h ht
  go_enter Try.func25, Try.ntmps25
  go_wp2_with fail
  refine HT.out.mono ?_
  rintro e w' ⟨rfl, hx⟩
  have HX := Lib.hid hx
  clear hx
  go_wp2
  go_ret2
  exact ⟨rfl, HX.out⟩
set_option maxHeartbeats 1000000 in
theorem gsize_range (h : GrM w G n N A f Es) (a : Int) (hr : ¬ (0 ≤ a ∧ a < n)) :
    Calls Try.prog 24 #[.pointer (some ⟨G.gb, 0, none⟩), .int .i64 a] w fun e w' => e = .returned (.tuple #[.int .i64 0, errV 1]) ∧ w = w' := by
  obtain ⟨F, hF⟩ := h.get h.pos
  have c2 : w.cell? ⟨G.gb, 2, none⟩ = some (.slice (some ⟨G.ob, 0, none⟩) G.Fs.length G.c) := h.blk.cell 2
  have c3 := h.cellF hF
  have hpos : (0 : Int) < (G.Fs.length : Int) := by have := h.pos; omega
  have HT := Lib.hid (tsize_range (h.fo 0 F hF) a hr)
  clear h hr
  go_enter Try.func24, Try.ntmps24
  go_wp2_with fail
  refine HT.out.mono ?_
  rintro e w' ⟨rfl, rfl⟩
  go_wp2
  go_ret2
  exact ⟨rfl, rfl⟩
set_option maxHeartbeats 1000000 in
theorem gsize_ok (h : GrM w G n N A f Es) (a : Nat) (ha : a < n) :
    Calls Try.prog 24 #[.pointer (some ⟨G.gb, 0, none⟩), .int .i64 a] w fun e w' => e = .returned (.tuple #[.int .i64 ((comp n (Es 0) a).length : Nat), .nilIface]) ∧ Ext w w' := by
  obtain ⟨F, hF⟩ := h.get h.pos
  have c2 : w.cell? ⟨G.gb, 2, none⟩ = some (.slice (some ⟨G.ob, 0, none⟩) G.Fs.length G.c) := h.blk.cell 2
  have c3 := h.cellF hF
  have hpos : (0 : Int) < (G.Fs.length : Int) := by have := h.pos; omega
  have HT := Lib.hid (tsize_ok (h.fo 0 F hF) a ha)
  clear h ha
  generalize (comp n (Es 0) a).length = m at HT ⊢
  go_enter Try.func24, Try.ntmps24
  go_wp2_with fail
  refine HT.out.mono ?_
  rintro e w' ⟨rfl, hx⟩
  have HX := Lib.hid hx
  clear hx
  go_wp2
  go_ret2
  exact ⟨rfl, HX.out⟩
set_option maxRecDepth 100000 in
set_option maxHeartbeats 1000000 in
theorem gparts_any (h : GrM w G n N A f Es) (hok : ∀ x ∈ A, 0 ≤ x.1 ∧ x.1 < x.2 ∧ x.2 < (n : Int)) (hup : A.Pairwise ltE) (hl : A.length ≤ 200) :
    Calls Try.prog 18 #[.pointer (some ⟨G.gb, 0, none⟩)] w fun e w' => e = .returned (.int .i64 ((n : Int) - (GM.lvl f A 0).length)) ∧ Ext w w' := by
  have h60 := h.hn
  have c0 : w.cell? ⟨G.gb, 0, none⟩ = some (.int .i64 n) := h.blk.cell 0
  have hlt := h.blk.lt
  have hll : (GM.lvl f A 0).length ≤ 200 := Nat.le_trans (List.length_filter_le _ _) hl
  have HT : Hid (∀ W, Ext w W → Calls Try.prog 23 #[.pointer (some ⟨G.gb, 0, none⟩)] W (EdgesPost W (GM.lvl f A 0))) := fun W hW => gtree_any (h.ext hW) hok hup hl
  have KG : Hid (∀ W, Ext w W → W.cell? ⟨G.gb, 0, none⟩ = some (.int .i64 n)) := fun W hW => (hW.cell (p := ⟨G.gb, 0, none⟩) hlt).trans c0
  clear h hok hup hl
  generalize GM.lvl f A 0 = L at HT hll ⊢
  have hwr : IntKind.i64.wrap ((n : Int) - (L.length : Int)) = (n : Int) - (L.length : Int) := IntWalk.i64_in _ (by omega)
  go_enter Try.func18, Try.ntmps18
  go_wp2
  go_region_held3 (fun w' => Ext w w' ∧ w'.cell? ⟨G.gb, 0, none⟩ = some (.int .i64 n))
    ((refine keepS KG.out ?_; first | assumption | exact fst_ (by assumption) | exact Ext.trans (by assumption) (Ext.alloc _ _) | exact Ext.drew _ | exact Ext.refl _ | exact Ext.trans (fst_ (by assumption)) (by assumption) | (trace_state; fail)))
    (first
      | (go_at_call 23; refine (HT.out _ (Ext.drew _)).mono ?_; rintro e w7 ⟨B, c, rfl, hb7, hx7, hn7⟩; have X7 : Ext w w7 := Ext.trans (Ext.drew _) hx7; clear hb7 hn7 hx7)
      | fail)
  go_wp2
  all_goals go_ret
  all_goals exact ⟨rfl, by first | assumption | exact fst_ (by assumption)⟩
end
end Go.Proofs.Ytlcnoihmhaaekaa

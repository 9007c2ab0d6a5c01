/-
  Walks of union.New, Join and Back. New: for every number; Join, Back: over a union that lies in memory as 'UAt' says.
  Walk of union.Back, and Join for every two numbers. Condition: the union lies in memory as 'UAt' says.
  Contracts of package union by the place of the struct, for nodes given as whole numbers. Condition: the union lies in memory as 'UAt' says.
-/
import Derived.Test.YtckcbfnffmohgaaGreatTt42
import Derived.RegionTactic
import Derived.BigRegion
import Derived.Deep.DrawnRows
import Derived.Deep.LoopGhost
namespace Go.Proofs.YtckcbfnffmohgaaGreat
open Go Go.RowKit

theorem infoInt : (Tryz.prog.info? 3).map (fun i => (i.zero, i.size, i.bytes)) = some (some (.int .i64 0), 1, 8) := by kernel_rfl
theorem i64v_succ (f : Nat → Nat) (n : Nat) : i64v f (n + 1) = i64v f n ++ [.int .i64 (f n : Nat)] := by simp [i64v, List.range_succ]
/-- How far New has come. -/
def NewRel (w : World) (n k : Nat) (wr : World) : Prop := ∃ uv sv : Value, Blk wr w.heap.size 70 #[uv, sv, .slice none 0 0, .int .i64 n] ∧
  wr.ownsRow 0 3 1 uv k (i64v id k) ∧ wr.ownsRow 0 3 1 sv k (i64v (fun _ => 1) k) ∧ (∀ j, uv.ownBlock = some j → w.heap.size < j) ∧ (∀ j, sv.ownBlock = some j → w.heap.size < j) ∧
  (∀ j, uv.ownBlock = some j → sv.ownBlock ≠ some j) ∧ Below w.heap.size w wr

theorem new_step {w wr w1 w2 : World} {n k g1 p1 g2 p2 : Nat} {uv sv : Value} {o1 o2 : Obj}
    (hu : wr.ownsRow 0 3 1 uv k (i64v id k)) (hs : wr.ownsRow 0 3 1 sv k (i64v (fun _ => 1) k))
    (lu : ∀ j, uv.ownBlock = some j → w.heap.size < j) (ls : ∀ j, sv.ownBlock = some j → w.heap.size < j) (hne : ∀ j, uv.ownBlock = some j → sv.ownBlock ≠ some j) (hbl : Below w.heap.size w wr) (hlt : w.heap.size < wr.heap.size)
    (ho1 : w1.ownsRow 0 3 1 (.slice (some ⟨g1, 0, none⟩) (k + 1) p1) (k + 1) (i64v id k ++ [.int .i64 k])) (hc1 : Chg (fun j => uv.ownBlock = some j) (wr.alloc o1) w1) (hat1 : uv.ownBlock = some g1 ∨ g1 = (wr.alloc o1).heap.size)
    (ho2 : w2.ownsRow 0 3 1 (.slice (some ⟨g2, 0, none⟩) (k + 1) p2) (k + 1) (i64v (fun _ => 1) k ++ [.int .i64 1]))
    (hc2 : Chg (fun j => sv.ownBlock = some j) ((w1.setCell ⟨w.heap.size, 0, none⟩ (.slice (some ⟨g1, 0, none⟩) (k + 1) p1)).alloc o2) w2)
    (hat2 : sv.ownBlock = some g2 ∨ g2 = ((w1.setCell ⟨w.heap.size, 0, none⟩ (.slice (some ⟨g1, 0, none⟩) (k + 1) p1)).alloc o2).heap.size)
    (HB2 : Blk w2 w.heap.size 70 #[.slice (some ⟨g1, 0, none⟩) (k + 1) p1, sv, .slice none 0 0, .int .i64 n]) :
    NewRel w n (k + 1) (w2.setCell ⟨w.heap.size, 1, none⟩ (.slice (some ⟨g2, 0, none⟩) (k + 1) p2)) := by
  have z1 : g1 < w1.heap.size := own_block_lt ho1 rfl
  have z2 : ∀ j, uv.ownBlock = some j → j < wr.heap.size := fun j hj => own_block_lt hu hj
  have z3 : ∀ j, sv.ownBlock = some j → j < wr.heap.size := fun j hj => own_block_lt hs hj
  have z4 := hc1.size
  simp only [World.size_alloc, World.size_setCell] at hat1 hat2 z4
  have y1 : w.heap.size < g1 := by rcases hat1 with h | h; exact lu _ h; omega
  have y2 : w.heap.size < g2 := by rcases hat2 with h | h; exact ls _ h; omega
  have y3 : g1 ≠ g2 := by
    rcases hat2 with h | h
    · have := z3 _ h
      rcases hat1 with h' | h'
      · intro e; subst e; exact hne _ h' h
      · omega
    · omega
  refine ⟨_, _, HB2.set_ 1 _, ?_, ?_, ?_, ?_, ?_, ?_⟩
  · rw [i64v_succ]
    refine own_far (own_chg ((own_far ho1 (p := ⟨w.heap.size, 0, none⟩) (by simp [Value.ownBlock]; omega) _).alloc _) hc2 ?_) (by simp [Value.ownBlock]; omega) _
    intro j hj hj2
    simp [Value.ownBlock] at hj
    subst hj
    rcases hat1 with h | h
    · exact hne _ h hj2
    · have := z3 _ hj2; omega
  · rw [i64v_succ]
    exact own_far ho2 (by simp [Value.ownBlock]; omega) _
  · intro j hj; simp [Value.ownBlock] at hj; omega
  · intro j hj; simp [Value.ownBlock] at hj; omega
  · intro j hj hj2; simp [Value.ownBlock] at hj hj2; omega
  · have c := ((((((Chg.of_below hbl).alloc o1).trans hc1 (fun i _ h => Nat.le_of_lt (lu i h))).setCell (p := ⟨w.heap.size, 0, none⟩) (fun _ => Nat.le_refl _) (.slice (some ⟨g1, 0, none⟩) (k + 1) p1)).alloc o2).trans hc2 (fun i _ h => Nat.le_of_lt (ls i h))).setCell (p := ⟨w.heap.size, 1, none⟩) (fun _ => Nat.le_refl _) (.slice (some ⟨g2, 0, none⟩) (k + 1) p2)
    exact c.below (Nat.le_refl _) (fun k _ h => h)
theorem new_end {w wr : World} {n : Nat} (h1 : 0 < n) (h2 : n ≤ 60) (h : NewRel w n n wr) : ∃ u : Uni, u.g = w.heap.size ∧ UAt wr u n [] ∧ Below w.heap.size w wr ∧ ∀ k, u.fp k → w.heap.size ≤ k := by
  obtain ⟨uv, sv, hB, hu, hs, lu, ls, hne, hbl⟩ := h
  obtain ⟨gu, cu, rfl, _, _⟩ := own_form hu h1
  obtain ⟨gs, cs, rfl, _, _⟩ := own_form hs h1
  have hgs : gu ≠ gs := fun e => hne gu rfl (by rw [e]; rfl)
  refine ⟨⟨w.heap.size, gu, cu, gs, cs, .slice none 0 0⟩, rfl, ⟨trivial, h1, h2, by simpa using hB, hu, hs, World.ownsRow_nil _ _ _ _, hgs, by simp [Value.ownBlock], by simp [Value.ownBlock]⟩, hbl, ?_⟩
  rintro k (rfl | rfl | rfl | h)
  · exact Nat.le_refl _
  · exact Nat.le_of_lt (lu _ rfl)
  · exact Nat.le_of_lt (ls _ rfl)
  · simp [Value.ownBlock] at h

/-- What New leaves. -/
def UNewPost (w : World) (n : Nat) (e : Ending) (w' : World) : Prop := ∃ u : Uni, e = .returned (.tuple #[.pointer (some ⟨u.g, 0, none⟩), .nilIface]) ∧ UAt w' u n [] ∧ Below w.heap.size w w' ∧ ∀ k, u.fp k → w.heap.size ≤ k
set_option maxHeartbeats 400000 in
set_option maxRecDepth 100000 in
theorem new_yes (w : World) (n : Nat) (h1 : 0 < n) (h2 : n ≤ 60) :
    Calls Tryz.prog 7 #[.int .i64 n] w (UNewPost w n) := by
  have t1 : ¬ ((n : Int) < 1) := by omega
  have t2 : decide ((60 : Int) < n) = false := by simp only [decide_eq_false_iff_not]; omega
  go_enter Tryz.func7, Tryz.ntmps7
  go_wp2
  go_loopw [17] (fun v wr => ∃ k : Nat, k ≤ n ∧ v = .int .i64 k ∧ NewRel w n k wr) (fun v _ => n - (intOf v).toNat)
  case atStart =>
    refine ⟨0, Nat.zero_le _, rfl, .slice none 0 0, .slice none 0 0, Blk.new _ _ _, World.ownsRow_nil _ _ _ _, World.ownsRow_nil _ _ _ _, ?_, ?_, ?_, (Below.refl _ _).alloc (Nat.le_refl _) _⟩ <;> (intro j hj; simp [Value.ownBlock] at hj)
  case round =>
    obtain ⟨k, hk, rfl, hR⟩ := hrel
    by_cases hlt : k < n
    · obtain ⟨uv, sv, hB, hu, hs, lu, ls, hne, hbl⟩ := hR
      have c0 := hB.cell 0
      have c1 := hB.cell 1
      simp at c0 c1
      have HB := Lib.hid hB
      have hlt0 := hB.lt
      clear hB
      have HS : Hid (∀ w1 : World, Chg (fun j => uv.ownBlock = some j) (wr.alloc (.cells #[.int .i64 k] 3)) w1 → w1.ownsRow 0 3 1 sv k (i64v (fun _ => 1) k)) :=
        fun w1 hc => own_chg (hs.alloc _) hc (fun j hj hj2 => hne j hj2 hj)
      have HG : Hid (∀ w1 : World, Chg (fun j => uv.ownBlock = some j) (wr.alloc (.cells #[.int .i64 k] 3)) w1 → Blk w1 w.heap.size 70 #[uv, sv, .slice none 0 0, .int .i64 n]) :=
        fun w1 hc => (HB.out.alloc _).chg hc (fun hj => by have := lu _ hj; omega)
      have HL : Hid (sv.ownBlock ≠ some w.heap.size) := fun hj => by have := ls _ hj; omega
      go_wp2_with (first
        | (at_builtin; refine wpList_push _ rfl (.tmp 24) (.tmp 26) 39 rfl 3 (.int .i64 0) 8 Tryz.underlying39 infoInt rfl uv k (i64v id k) rfl (hu.alloc _) ⟨by omega, by omega⟩ (.int .i64 k) wr.heap.size rfl (cell_new1 rfl _ _) rfl ?_; intro g1 p1 w1 ho1 hc1 hat1 hp1; have HB1 := Lib.hid (HG.out w1 hc1); have d0 : w1.cell? ⟨w.heap.size, 0, none⟩ = some uv := HB1.out.cell 0; have d1 : w1.cell? ⟨w.heap.size, 1, none⟩ = some sv := HB1.out.cell 1; have e0 := HB1.out.frozen 0; have e1 := HB1.out.frozen 1; have q1 := hc1.size; simp at q1)
        | (at_builtin; refine wpList_push _ rfl (.tmp 34) (.tmp 35) 39 rfl 3 (.int .i64 0) 8 Tryz.underlying39 infoInt rfl sv k (i64v (fun _ => 1) k) rfl ((own_far (HS.out w1 hc1) HL.out _).alloc _) ⟨by omega, by omega⟩ (.int .i64 1) w1.heap.size rfl (cell_new1 (by simp) _ _) rfl ?_; intro g2 p2 w2 ho2 hc2 hat2 hp2; have HB2 : Hid (Blk w2 w.heap.size 70 #[.slice (some ⟨g1, 0, none⟩) (k + 1) p1, sv, .slice none 0 0, .int .i64 n]) := (((HB1.out.set_ 0 (.slice (some ⟨g1, 0, none⟩) (k + 1) p1)).alloc _).chg hc2 (fun hj => HL.out hj)); have d1' : w2.cell? ⟨w.heap.size, 1, none⟩ = some sv := HB2.out.cell 1; have e1' := HB2.out.frozen 1)
        )
      go_roundw
      case rel => exact ⟨k + 1, by omega, by go_num, new_step hu hs lu ls hne hbl hlt0 ho1 hc1 hat1 ho2 hc2 hat2 HB2.out⟩
      case measure => simp [intOf]; omega
    · have e : k = n := by omega
      have HE : Hid (∃ u : Uni, u.g = w.heap.size ∧ UAt wr u n [] ∧ Below w.heap.size w wr ∧ ∀ k, u.fp k → w.heap.size ≤ k) := new_end h1 h2 (e ▸ hR)
      clear e hR
      go_wp2
      go_ret2
      obtain ⟨u, hg, ha, hb, hf⟩ := HE.out
      exact ⟨u, by rw [hg]; rfl, ha, hb, hf⟩

/-- Only blocks of the union and new ones have turned; its own afterwards are of these. -/
def Moved (w : World) (u u' : Uni) (w' : World) : Prop := u'.g = u.g ∧ Chg u.fp w w' ∧ ∀ k, u'.fp k → u.fp k ∨ w.heap.size ≤ k
theorem Moved.same {w w' : World} (u : Uni) (h : Below w.heap.size w w') : Moved w u u w' := ⟨rfl, Chg.new h _, fun _ h => .inl h⟩

set_option maxHeartbeats 400000 in
theorem join_no (w : World) (u : Uni) (n : Nat) (hs : UF.Hs) (h : UAt w u n hs) (a b : Int) (hr : nodeB n [a, b] = false) :
    Calls Tryz.prog 8 #[.pointer (some ⟨u.g, 0, none⟩), .int .i64 a, .int .i64 b] w fun e w' => e = .returned (.tuple #[.bool false, errVU 1]) ∧ Below w.heap.size w w' := by
  have HH := Lib.hid h
  have HR := Lib.hid hr
  clear h hr
  go_enter Tryz.func8, Tryz.ntmps8
  go_wp2_with fail
  refine (node_any _ u n hs (HH.out.alloc _) w.heap.size 2 (by omega) [a, b] rfl (cell2 (Blk.new _ _ _)) false HR.out).mono ?_
  rintro e w' ⟨rfl, rfl⟩
  go_wp2
  go_ret2
  exact ⟨rfl, (Below.refl _ _).alloc (Nat.le_refl _) _⟩
set_option maxHeartbeats 400000 in
theorem join_same (w : World) (u : Uni) (n : Nat) (hs : UF.Hs) (h : UAt w u n hs) (a b : Nat) (ha : a < n) (hb : b < n) (hr : UF.rt hs a = UF.rt hs b) :
    Calls Tryz.prog 8 #[.pointer (some ⟨u.g, 0, none⟩), .int .i64 a, .int .i64 b] w fun e w' => e = .returned (.tuple #[.bool false, .nilIface]) ∧ Below w.heap.size w w' := by
  have HH := Lib.hid h
  have HE := Lib.hid hr
  have HR : Hid (nodeB n [(a : Int), (b : Int)] = true) := by unfold Hid nodeB; simp; omega
  clear h hr
  go_enter Tryz.func8, Tryz.ntmps8
  go_wp2_with fail
  refine (node_any _ u n hs (HH.out.alloc _) w.heap.size 2 (by omega) [(a : Int), (b : Int)] rfl (cell2 (Blk.new _ _ _)) true HR.out).mono ?_
  rintro e w' ⟨rfl, rfl⟩
  go_wp2_with fail
  refine (root_any _ u n hs (HH.out.alloc _) a ha).mono ?_
  rintro e w' ⟨rfl, rfl⟩
  go_wp2_with fail
  refine (root_any _ u n hs (HH.out.alloc _) b hb).mono ?_
  rintro e w' ⟨rfl, rfl⟩
  rw [← HE.out]
  go_wp2
  go_ret2
  exact ⟨rfl, (Below.refl _ _).alloc (Nat.le_refl _) _⟩

theorem i64v_set {f : Nat → Nat} {n k v : Nat} : (i64v f n).set k (.int .i64 (v : Nat)) = i64v (fun i => if i = k then v else f i) n := by
  apply List.ext_getElem?
  intro j
  unfold i64v
  rw [List.getElem?_set]
  by_cases e : k = j
  · subst e
    by_cases hk : k < n
    · simp [hk]
    · simp [hk]
  · have e' : ¬ j = k := fun h => e h.symm
    by_cases hj : j < n <;> simp [e, e', hj]
/-- A union whose rows have the hang already, whose done and parts have not yet. -/
structure UMid (w : World) (u : Uni) (n : Nat) (hs ks : UF.Hs) : Prop where
  blk : Blk w u.g 70 #[.slice (some ⟨u.gu, 0, none⟩) n u.cu, .slice (some ⟨u.gs, 0, none⟩) n u.cs, u.dv, .int .i64 ((n : Int) - (hs.length : Int))]
  rup : w.ownsRow 0 3 1 (.slice (some ⟨u.gu, 0, none⟩) n u.cu) n (i64v (UF.up ks) n)
  rsz : w.ownsRow 0 3 1 (.slice (some ⟨u.gs, 0, none⟩) n u.cs) n (i64v (UF.sz ks) n)
  rdn : w.ownsRow 0 3 1 u.dv hs.length (hs.reverse.map fun p => .int .i64 (p.2 : Nat))
theorem join_mid {w : World} {u : Uni} {n : Nat} {hs : UF.Hs} (h : UAt w u n hs) (o : Obj) (nq p q : Nat) :
    UMid (((((w.alloc o).drewN nq).setCell ⟨u.gu, q, none⟩ (.int .i64 (p : Int))).setCell ⟨u.gs, p, none⟩ (.int .i64 ((UF.sz hs p : Int) + (UF.sz hs q : Int)))).drew) u n hs ((p, q) :: hs) ∧
    Chg u.fp w (((((w.alloc o).drewN nq).setCell ⟨u.gu, q, none⟩ (.int .i64 (p : Int))).setCell ⟨u.gs, p, none⟩ (.int .i64 ((UF.sz hs p : Int) + (UF.sz hs q : Int)))).drew) := by
  have h0 := (h.alloc o).drewN nq
  have e : ((UF.sz hs p : Int) + (UF.sz hs q : Int)) = ((UF.sz hs p + UF.sz hs q : Nat) : Int) := by omega
  rw [e]
  refine ⟨⟨?_, ?_, ?_, ?_⟩, ?_⟩
  · exact ((h0.blk.far (p := ⟨u.gu, q, none⟩) (fun e => h.ggu e.symm) _).far (p := ⟨u.gs, p, none⟩) (fun e => h.ggs e.symm) _).drew
  · have := (h0.rup.stored q (.int .i64 (p : Int))).1
    rw [i64v_set] at this
    exact own_drew (own_far this (p := ⟨u.gs, p, none⟩) (by simp [Value.ownBlock]; exact h.n1) _)
  · have := own_far h0.rsz (p := ⟨u.gu, q, none⟩) (by simp [Value.ownBlock]; exact fun e => h.n1 e.symm) (.int .i64 (p : Int))
    have := (this.stored p (.int .i64 ((UF.sz hs p + UF.sz hs q : Nat) : Int))).1
    rw [i64v_set] at this
    exact own_drew this
  · exact own_drew (own_far (own_far h0.rdn (p := ⟨u.gu, q, none⟩) h.n2 _) (p := ⟨u.gs, p, none⟩) h.n3 _)
  · exact ((((((Chg.refl u.fp w).alloc o).drewN nq).setCell (p := ⟨u.gu, q, none⟩) (fun _ => .inr (.inl rfl)) _).setCell (p := ⟨u.gs, p, none⟩) (fun _ => .inr (.inr (.inl rfl))) _).drew)

/-- A root is hung under another. -/
def JoinPost (w : World) (u : Uni) (n : Nat) (hs : UF.Hs) (e : Ending) (w' : World) : Prop := ∃ u' : Uni, e = .returned (.tuple #[.bool true, .nilIface]) ∧ UAt w' u' n hs ∧ Moved w u u' w'
theorem join_fin {w W w1 : World} {u : Uni} {n p q g c : Nat} {hs : UF.Hs} {o : Obj} (h : UAt w u n hs) (hok : UF.Ok n ((p, q) :: hs)) (hm : UMid W u n hs ((p, q) :: hs)) (hc : Chg u.fp w W)
    (ho : w1.ownsRow 0 3 1 (.slice (some ⟨g, 0, none⟩) (hs.length + 1) c) (hs.length + 1) ((hs.reverse.map fun p => .int .i64 (p.2 : Nat)) ++ [.int .i64 (q : Int)]))
    (hc1 : Chg (fun k => u.dv.ownBlock = some k) (W.alloc o) w1) (hat : u.dv.ownBlock = some g ∨ g = (W.alloc o).heap.size) :
    Blk w1 u.g 70 #[.slice (some ⟨u.gu, 0, none⟩) n u.cu, .slice (some ⟨u.gs, 0, none⟩) n u.cs, u.dv, .int .i64 ((n : Int) - (hs.length : Int))] ∧
    ∃ u' : Uni, UAt ((w1.setCell ⟨u.g, 2, none⟩ (.slice (some ⟨g, 0, none⟩) (hs.length + 1) c)).setCell ⟨u.g, 3, none⟩ (.int .i64 ((n : Int) - (hs.length : Int) - 1))) u' n ((p, q) :: hs) ∧
      Moved w u u' ((w1.setCell ⟨u.g, 2, none⟩ (.slice (some ⟨g, 0, none⟩) (hs.length + 1) c)).setCell ⟨u.g, 3, none⟩ (.int .i64 ((n : Int) - (hs.length : Int) - 1))) := by
  have hz := hc.size
  have hlt : ∀ k, u.fp k → k < w.heap.size := fun k hk => h.lt hk
  simp only [World.size_alloc] at hat
  have hB := (hm.blk.alloc o).chg hc1 (h.ggd)
  have q1 : g ≠ u.g := by
    rcases hat with e | e
    · intro e2; subst e2; exact h.ggd e
    · have := hlt _ (.inl rfl); omega
  have q2 : g ≠ u.gu := by
    rcases hat with e | e
    · intro e2; subst e2; exact h.n2 e
    · have := hlt _ (.inr (.inl rfl)); omega
  have q3 : g ≠ u.gs := by
    rcases hat with e | e
    · intro e2; subst e2; exact h.n3 e
    · have := hlt _ (.inr (.inr (.inl rfl))); omega
  have e4 : ((n : Int) - (hs.length : Int) - 1) = ((n : Int) - ((((p, q) :: hs).length : Nat) : Int)) := by simp only [List.length_cons]; omega
  refine ⟨hB, ⟨u.g, u.gu, u.cu, u.gs, u.cs, .slice (some ⟨g, 0, none⟩) (hs.length + 1) c⟩, ⟨hok, h.pos, h.le, ?_, ?_, ?_, ?_, h.n1, by simp [Value.ownBlock]; exact q2, by simp [Value.ownBlock]; exact q3⟩, rfl, ?_, ?_⟩
  · rw [e4]; exact (hB.set_ 2 _).set_ 3 _
  · exact own_far (own_far (own_chg (hm.rup.alloc o) hc1 (by intro k hk; simp [Value.ownBlock] at hk; subst hk; exact h.n2)) (p := ⟨u.g, 2, none⟩) (by simp [Value.ownBlock]; exact h.ggu) _) (p := ⟨u.g, 3, none⟩) (by simp [Value.ownBlock]; exact h.ggu) _
  · exact own_far (own_far (own_chg (hm.rsz.alloc o) hc1 (by intro k hk; simp [Value.ownBlock] at hk; subst hk; exact h.n3)) (p := ⟨u.g, 2, none⟩) (by simp [Value.ownBlock]; exact h.ggs) _) (p := ⟨u.g, 3, none⟩) (by simp [Value.ownBlock]; exact h.ggs) _
  · have := own_far (own_far ho (p := ⟨u.g, 2, none⟩) (by simp [Value.ownBlock]; exact q1) (.slice (some ⟨g, 0, none⟩) (hs.length + 1) c)) (p := ⟨u.g, 3, none⟩) (by simp [Value.ownBlock]; exact q1) (.int .i64 ((n : Int) - (hs.length : Int) - 1))
    simpa using this
  · exact (((hc.alloc o).trans hc1 (fun i _ hi => .inr (.inr (.inr hi)))).setCell (p := ⟨u.g, 2, none⟩) (fun _ => .inl rfl) _).setCell (p := ⟨u.g, 3, none⟩) (fun _ => .inl rfl) _
  · rintro k (rfl | rfl | rfl | hk)
    · exact .inl (.inl rfl)
    · exact .inl (.inr (.inl rfl))
    · exact .inl (.inr (.inr (.inl rfl)))
    · simp [Value.ownBlock] at hk
      subst hk
      rcases hat with e | e
      · exact .inl (.inr (.inr (.inr e)))
      · right; omega

set_option maxHeartbeats 1000000 in
theorem join_yes (w : World) (u : Uni) (n : Nat) (hs : UF.Hs) (h : UAt w u n hs) (a b p q : Nat) (ha : a < n) (hb : b < n) (hne : p ≠ q)
    (hr : (UF.rt hs a = p ∧ UF.rt hs b = q ∧ ¬ UF.sz hs p < UF.sz hs q) ∨ (UF.rt hs a = q ∧ UF.rt hs b = p ∧ UF.sz hs q < UF.sz hs p)) :
    Calls Tryz.prog 8 #[.pointer (some ⟨u.g, 0, none⟩), .int .i64 a, .int .i64 b] w (JoinPost w u n ((p, q) :: hs)) := by
  have HH := Lib.hid h
  have HR : Hid (nodeB n [(a : Int), (b : Int)] = true) := by unfold Hid nodeB; simp; omega
  have hp : p < n := by rcases hr with ⟨r1, r2, _⟩ | ⟨r1, r2, _⟩; rw [← r1]; exact UF.rt_lt h.ok ha; rw [← r2]; exact UF.rt_lt h.ok hb
  have hq : q < n := by rcases hr with ⟨r1, r2, _⟩ | ⟨r1, r2, _⟩; rw [← r2]; exact UF.rt_lt h.ok hb; rw [← r1]; exact UF.rt_lt h.ok ha
  have HOK : Hid (UF.Ok n ((p, q) :: hs)) := by
    refine ⟨h.ok, hp, hq, ?_, ?_, hne⟩
    · rcases hr with ⟨r1, r2, _⟩ | ⟨r1, r2, _⟩; rw [← r1]; exact UF.rt_rt h.ok; rw [← r2]; exact UF.rt_rt h.ok
    · rcases hr with ⟨r1, r2, _⟩ | ⟨r1, r2, _⟩; rw [← r2]; exact UF.rt_rt h.ok; rw [← r1]; exact UF.rt_rt h.ok
  have b0 : ∀ o, (w.alloc o).cell? ⟨u.g, 0, none⟩ = some (.slice (some ⟨u.gu, 0, none⟩) n u.cu) := fun o => (h.alloc o).blk.cell 0
  have b1 : ∀ o, (w.alloc o).cell? ⟨u.g, 1, none⟩ = some (.slice (some ⟨u.gs, 0, none⟩) n u.cs) := fun o => (h.alloc o).blk.cell 1
  have s1 : ∀ o, (w.alloc o).cell? ⟨u.gs, p, none⟩ = some (.int .i64 (UF.sz hs p : Nat)) := fun o => (h.alloc o).sz_cell hp
  have s2 : ∀ o, (w.alloc o).cell? ⟨u.gs, q, none⟩ = some (.int .i64 (UF.sz hs q : Nat)) := fun o => (h.alloc o).sz_cell hq
  have s3 : ∀ o, (w.alloc o).cell? ⟨u.gu, q, none⟩ = some (.int .i64 (UF.up hs q : Nat)) := fun o => (h.alloc o).up_cell hq
  have hle := h.le
  have hll : hs.length < n := UF.len_lt h.ok h.pos
  have z1 := UF.sz_le h.ok hp
  have z2 := UF.sz_le h.ok hq
  have x1 : (0 : Int) ≤ (p : Int) := by omega
  have x2 : (p : Int) < (n : Int) := by omega
  have x3 : (0 : Int) ≤ (q : Int) := by omega
  have x4 : (q : Int) < (n : Int) := by omega
  have t1 : ((p : Int) == (q : Int)) = false := by simp; omega
  have t1' : ((q : Int) == (p : Int)) = false := by simp; omega
  have f1 : ∀ o i, (w.alloc o).frozen? ⟨u.gu, i, none⟩ = false := fun o i => (h.alloc o).rup.frozenAt i
  have f2 : ∀ o i, (w.alloc o).frozen? ⟨u.gs, i, none⟩ = false := fun o i => (h.alloc o).rsz.frozenAt i
  have n1 : ¬ (u.gu = u.gs) := h.n1
  have n2 : ¬ (u.gu = u.g) := h.ggu
  have n3 : ¬ (u.gs = u.g) := h.ggs
  clear h
  rcases hr with ⟨r1, r2, r3⟩ | ⟨r1, r2, r3⟩
  · have R1 := Lib.hid r1
    have R2 := Lib.hid r2
    have t2 : decide (UF.sz hs p < UF.sz hs q) = false := by simp only [decide_eq_false_iff_not]; exact r3
    clear r1 r2 r3
    go_enter Tryz.func8, Tryz.ntmps8
    go_wp2_with fail
    refine (node_any _ u n hs (HH.out.alloc _) w.heap.size 2 (by omega) [(a : Int), (b : Int)] rfl (cell2 (Blk.new _ _ _)) true HR.out).mono ?_
    rintro e w' ⟨rfl, rfl⟩
    go_wp2_with fail
    refine (root_any _ u n hs (HH.out.alloc _) a ha).mono ?_
    rintro e w' ⟨rfl, rfl⟩
    go_wp2_with fail
    refine (root_any _ u n hs (HH.out.alloc _) b hb).mono ?_
    rintro e w' ⟨rfl, rfl⟩
    rw [R1.out, R2.out]
    go_wp2
    go_quiet (fail)
    go_wp2
    go_region
    obtain ⟨HM, HC⟩ := join_mid HH.out (.cells #[.int .i64 a, .int .i64 b] 3) nq p q
    generalize (((((w.alloc (.cells #[.int .i64 a, .int .i64 b] 3)).drewN nq).setCell ⟨u.gu, q, none⟩ (.int .i64 (p : Int))).setCell ⟨u.gs, p, none⟩ (.int .i64 ((UF.sz hs p : Int) + (UF.sz hs q : Int)))).drew) = W at HM HC ⊢
    have c2 : W.cell? ⟨u.g, 2, none⟩ = some u.dv := HM.blk.cell 2
    have hz : u.g < W.heap.size := HM.blk.lt
    have HM' := Lib.hid HM
    have HC' := Lib.hid HC
    clear b0 b1 s1 s2 s3 f1 f2 HM HC
    go_wp2_with (first
      | (at_builtin; refine wpList_push _ rfl (.tmp 68) (.tmp 70) 39 rfl 3 (.int .i64 0) 8 Tryz.underlying39 infoInt rfl u.dv hs.length (hs.reverse.map fun p => .int .i64 (p.2 : Nat)) rfl (HM'.out.rdn.alloc _) ⟨by omega, by omega⟩ (.int .i64 q) W.heap.size rfl (cell_new1 rfl _ _) rfl ?_; intro g c w1 ho hc1 hat hp1; have HF := Lib.hid (join_fin HH.out HOK.out HM'.out HC'.out ho hc1 hat); have d2 : w1.cell? ⟨u.g, 2, none⟩ = some u.dv := HF.out.1.cell 2; have d3 : w1.cell? ⟨u.g, 3, none⟩ = some (.int .i64 ((n : Int) - (hs.length : Int))) := HF.out.1.cell 3; have e2 := HF.out.1.frozen 2; have e3 := HF.out.1.frozen 3; clear ho hc1 hat))
    go_ret2
    obtain ⟨_, u', h1, h2⟩ := HF.out
    exact ⟨u', rfl, h1, h2⟩
  · have R1 := Lib.hid r1
    have R2 := Lib.hid r2
    have t2 : decide (UF.sz hs q < UF.sz hs p) = true := by simp only [decide_eq_true_eq]; exact r3
    clear r1 r2 r3
    go_enter Tryz.func8, Tryz.ntmps8
    go_wp2_with fail
    refine (node_any _ u n hs (HH.out.alloc _) w.heap.size 2 (by omega) [(a : Int), (b : Int)] rfl (cell2 (Blk.new _ _ _)) true HR.out).mono ?_
    rintro e w' ⟨rfl, rfl⟩
    go_wp2_with fail
    refine (root_any _ u n hs (HH.out.alloc _) a ha).mono ?_
    rintro e w' ⟨rfl, rfl⟩
    go_wp2_with fail
    refine (root_any _ u n hs (HH.out.alloc _) b hb).mono ?_
    rintro e w' ⟨rfl, rfl⟩
    rw [R1.out, R2.out]
    go_wp2
    go_quiet (fail)
    go_wp2
    go_region
    obtain ⟨HM, HC⟩ := join_mid HH.out (.cells #[.int .i64 a, .int .i64 b] 3) nq p q
    generalize (((((w.alloc (.cells #[.int .i64 a, .int .i64 b] 3)).drewN nq).setCell ⟨u.gu, q, none⟩ (.int .i64 (p : Int))).setCell ⟨u.gs, p, none⟩ (.int .i64 ((UF.sz hs p : Int) + (UF.sz hs q : Int)))).drew) = W at HM HC ⊢
    have c2 : W.cell? ⟨u.g, 2, none⟩ = some u.dv := HM.blk.cell 2
    have hz : u.g < W.heap.size := HM.blk.lt
    have HM' := Lib.hid HM
    have HC' := Lib.hid HC
    clear b0 b1 s1 s2 s3 f1 f2 HM HC
    go_wp2_with (first
      | (at_builtin; refine wpList_push _ rfl (.tmp 68) (.tmp 70) 39 rfl 3 (.int .i64 0) 8 Tryz.underlying39 infoInt rfl u.dv hs.length (hs.reverse.map fun p => .int .i64 (p.2 : Nat)) rfl (HM'.out.rdn.alloc _) ⟨by omega, by omega⟩ (.int .i64 q) W.heap.size rfl (cell_new1 rfl _ _) rfl ?_; intro g c w1 ho hc1 hat hp1; have HF := Lib.hid (join_fin HH.out HOK.out HM'.out HC'.out ho hc1 hat); have d2 : w1.cell? ⟨u.g, 2, none⟩ = some u.dv := HF.out.1.cell 2; have d3 : w1.cell? ⟨u.g, 3, none⟩ = some (.int .i64 ((n : Int) - (hs.length : Int))) := HF.out.1.cell 3; have e2 := HF.out.1.frozen 2; have e3 := HF.out.1.frozen 3; clear ho hc1 hat))
    go_ret2
    obtain ⟨_, u', h1, h2⟩ := HF.out
    exact ⟨u', rfl, h1, h2⟩
end Go.Proofs.YtckcbfnffmohgaaGreat
namespace Go.Proofs.YtckcbfnffmohgaaGreat
open Go Go.RowKit

/-- Join for every two numbers: the hangs behind it; whether something new was joined. -/
def joinI (n : Nat) (hs : UF.Hs) (a b : Int) : UF.Hs := if nodeB n [a, b] then UF.join hs a.toNat b.toNat else hs
def joinB (n : Nat) (hs : UF.Hs) (a b : Int) : Bool := nodeB n [a, b] && UF.rt hs a.toNat != UF.rt hs b.toNat
def joinE (n : Nat) (a b : Int) : Value := if nodeB n [a, b] then .nilIface else errVU 1
def JoinAny (w : World) (u : Uni) (n : Nat) (hs : UF.Hs) (a b : Int) (e : Ending) (w' : World) : Prop :=
  ∃ u' : Uni, e = .returned (.tuple #[.bool (joinB n hs a b), joinE n a b]) ∧ UAt w' u' n (joinI n hs a b) ∧ Moved w u u' w'
theorem join_any (w : World) (u : Uni) (n : Nat) (hs : UF.Hs) (h : UAt w u n hs) (a b : Int) :
    Calls Tryz.prog 8 #[.pointer (some ⟨u.g, 0, none⟩), .int .i64 a, .int .i64 b] w (JoinAny w u n hs a b) := by
  by_cases hr : nodeB n [a, b] = true
  · have hr' := hr
    simp [nodeB] at hr'
    obtain ⟨⟨a0, a1⟩, b0, b1⟩ := hr'
    obtain ⟨a, rfl⟩ := Int.eq_ofNat_of_zero_le a0
    obtain ⟨b, rfl⟩ := Int.eq_ofNat_of_zero_le b0
    have ha : a < n := by omega
    have hb : b < n := by omega
    by_cases e : UF.rt hs a = UF.rt hs b
    · refine (join_same w u n hs h a b ha hb e).mono ?_
      rintro e1 w' ⟨rfl, hb'⟩
      exact ⟨u, by simp [joinB, joinE, hr, e], by simp only [joinI, hr, if_true, UF.join, Int.toNat_natCast, e]; exact h.new hb', Moved.same u hb'⟩
    · by_cases hsz : UF.sz hs (UF.rt hs a) < UF.sz hs (UF.rt hs b)
      · refine (join_yes w u n hs h a b (UF.rt hs b) (UF.rt hs a) ha hb (fun e' => e e'.symm) (.inr ⟨rfl, rfl, hsz⟩)).mono ?_
        rintro e1 w' ⟨u', rfl, hU, hM⟩
        exact ⟨u', by simp [joinB, joinE, hr, e], by simp only [joinI, hr, if_true, UF.join, Int.toNat_natCast, e, if_false, hsz]; exact hU, hM⟩
      · refine (join_yes w u n hs h a b (UF.rt hs a) (UF.rt hs b) ha hb e (.inl ⟨rfl, rfl, hsz⟩)).mono ?_
        rintro e1 w' ⟨u', rfl, hU, hM⟩
        exact ⟨u', by simp [joinB, joinE, hr, e], by simp only [joinI, hr, if_true, UF.join, Int.toNat_natCast, e, if_false, hsz]; exact hU, hM⟩
  · have hr' : nodeB n [a, b] = false := by simpa using hr
    refine (join_no w u n hs h a b hr').mono ?_
    rintro e1 w' ⟨rfl, hb'⟩
    exact ⟨u, by simp [joinB, joinE, hr'], by simp only [joinI, hr', Bool.false_eq_true, if_false]; exact h.new hb', Moved.same u hb'⟩
end Go.Proofs.YtckcbfnffmohgaaGreat
namespace Go.Proofs.YtckcbfnffmohgaaGreat
open Go Go.RowKit
set_option linter.unusedVariables false

/-- What Join leaves, of two nodes that there are. -/
def JoinIn (w : World) (u : Uni) (n : Nat) (hs : UF.Hs) (a b : Int) (e : Ending) (w' : World) : Prop :=
  ∃ u' : Uni, e = .returned (.tuple #[.bool (UF.rt hs a.toNat != UF.rt hs b.toNat), .nilIface]) ∧ UAt w' u' n (UF.join hs a.toNat b.toNat) ∧ Moved w u u' w'
theorem join_in {w : World} {u : Uni} {n g : Nat} {hs : UF.Hs} (h : UAt w u n hs) (hg : u.g = g) (a b : Int) (ha : 0 ≤ a ∧ a < n) (hb : 0 ≤ b ∧ b < n) :
    Calls Tryz.prog 8 #[.pointer (some ⟨g, 0, none⟩), .int .i64 a, .int .i64 b] w (JoinIn w u n hs a b) := by
  subst hg
  have hr : nodeB n [a, b] = true := by unfold nodeB; simp; omega
  refine (join_any w u n hs h a b).mono ?_
  rintro e w' ⟨u', rfl, h1, h2⟩
  exact ⟨u', by simp [joinB, joinE, hr], by simpa only [joinI, hr, if_true] using h1, h2⟩
end Go.Proofs.YtckcbfnffmohgaaGreat

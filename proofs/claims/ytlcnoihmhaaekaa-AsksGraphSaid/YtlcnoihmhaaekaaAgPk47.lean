/-
  Walk of union.Back, and Join for every two numbers. Condition: the union lies in memory as 'UAt' says.
  Contracts of package union by the place of the struct, for nodes given as whole numbers. Condition: the union lies in memory as 'UAt' says.
-/
import Derived.Test.YtlcnoihmhaaekaaUn2
import Derived.Deep.LoopGhost
namespace Go.Proofs.Ytlcnoihmhaaekaa
open Go Go.RowKit

theorem Moved.refl (w : World) (u : Uni) : Moved w u u w := Moved.same u (Below.refl _ _)
theorem Moved.trans {w w1 w2 : World} {u u1 u2 : Uni} (h : Moved w u u1 w1) (k : Moved w1 u1 u2 w2) : Moved w u u2 w2 := by
  obtain ⟨h1, h2, h3⟩ := h
  obtain ⟨k1, k2, k3⟩ := k
  refine ⟨k1.trans h1, h2.trans k2 (fun i hi hS => ?_), fun i hi => ?_⟩
  · rcases h3 i hS with h | h
    · exact h
    · omega
  · rcases k3 i hi with h | h
    · exact h3 i h
    · have := h2.size; right; omega

/-- How far Back has come: k hangs are still to be taken back. -/
def BackRel (w : World) (u : Uni) (n m : Nat) (hs : UF.Hs) (k : Nat) (wr : World) : Prop :=
  ∃ (u' : Uni) (ks pre : UF.Hs), ks.length = m + k ∧ hs = pre ++ ks ∧ UAt wr u' n ks ∧ Moved w u u' wr
def BackPost (w : World) (u : Uni) (n m : Nat) (hs : UF.Hs) (e : Ending) (w' : World) : Prop :=
  ∃ u' : Uni, e = .returned .nilIface ∧ UAt w' u' n (hs.drop (hs.length - m)) ∧ Moved w u u' w'
theorem back_end {w wr : World} {u : Uni} {n m : Nat} {hs : UF.Hs} (h : BackRel w u n m hs 0 wr) : BackPost w u n m hs (.returned .nilIface) wr := by
  obtain ⟨u', ks, pre, h1, rfl, h3, h4⟩ := h
  refine ⟨u', rfl, ?_, h4⟩
  have : (pre ++ ks).length - m = pre.length := by simp; omega
  rw [this, List.drop_left]; exact h3

theorem back_step {w : World} {u : Uni} {n a b gd cd : Nat} {ks : UF.Hs} (h : UAt w u n ((a, b) :: ks)) (hd : u.dv = .slice (some ⟨gd, 0, none⟩) (ks.length + 1) cd) :
    ∃ u' : Uni, UAt ((((w.setCell ⟨u.g, 2, none⟩ (.slice (some ⟨gd, 0, none⟩) ks.length cd)).setCell ⟨u.gs, a, none⟩ (.int .i64 (UF.sz ks a : Nat))).setCell ⟨u.gu, b, none⟩ (.int .i64 (b : Int))).setCell ⟨u.g, 3, none⟩ (.int .i64 ((n : Int) - ((ks.length : Int) + 1) + 1))) u' n ks ∧
      Moved w u u' ((((w.setCell ⟨u.g, 2, none⟩ (.slice (some ⟨gd, 0, none⟩) ks.length cd)).setCell ⟨u.gs, a, none⟩ (.int .i64 (UF.sz ks a : Nat))).setCell ⟨u.gu, b, none⟩ (.int .i64 (b : Int))).setCell ⟨u.g, 3, none⟩ (.int .i64 ((n : Int) - ((ks.length : Int) + 1) + 1))) := by
  obtain ⟨ho, la, lb, ra, rb, hne⟩ := h.ok
  have hgg := h.ggd
  have n2 := h.n2
  have n3 := h.n3
  rw [hd] at hgg n2 n3
  simp only [Value.ownBlock, ne_eq, Option.some.injEq] at hgg n2 n3
  refine ⟨⟨u.g, u.gu, u.cu, u.gs, u.cs, .slice (some ⟨gd, 0, none⟩) ks.length cd⟩, ⟨ho, h.pos, h.le, ?_, ?_, ?_, ?_, h.n1, by simp [Value.ownBlock]; exact n2, by simp [Value.ownBlock]; exact n3⟩, rfl, ?_, ?_⟩
  · have := (((h.blk.set_ 2 (.slice (some ⟨gd, 0, none⟩) ks.length cd)).far (p := ⟨u.gs, a, none⟩) (fun e => h.ggs e.symm) (.int .i64 (UF.sz ks a : Nat))).far (p := ⟨u.gu, b, none⟩) (fun e => h.ggu e.symm) (.int .i64 (b : Int))).set_ 3 (.int .i64 ((n : Int) - ((ks.length : Int) + 1) + 1))
    have e : ((n : Int) - ((ks.length : Int) + 1) + 1) = (n : Int) - (ks.length : Int) := by omega
    rw [e] at this ⊢
    exact this
  · have := own_far (own_far h.rup (p := ⟨u.g, 2, none⟩) (by simp [Value.ownBlock]; exact h.ggu) (.slice (some ⟨gd, 0, none⟩) ks.length cd)) (p := ⟨u.gs, a, none⟩) (by simp [Value.ownBlock]; exact h.n1) (.int .i64 (UF.sz ks a : Nat))
    have := (this.stored b (.int .i64 (b : Int))).1
    rw [i64v_set] at this
    rw [i64v_congr (g := UF.up ks) (fun i _ => by
      by_cases e : i = b
      · subst e; simp [(UF.up_self ho).2 rb]
      · simp [e, UF.up])] at this
    exact own_far this (p := ⟨u.g, 3, none⟩) (by simp [Value.ownBlock]; exact h.ggu) _
  · have := own_far h.rsz (p := ⟨u.g, 2, none⟩) (by simp [Value.ownBlock]; exact h.ggs) (.slice (some ⟨gd, 0, none⟩) ks.length cd)
    have := (this.stored a (.int .i64 (UF.sz ks a : Nat))).1
    rw [i64v_set] at this
    rw [i64v_congr (g := UF.sz ks) (fun i _ => by
      by_cases e : i = a
      · subst e; simp
      · simp [e, UF.sz])] at this
    exact own_far (own_far this (p := ⟨u.gu, b, none⟩) (by simp [Value.ownBlock]; exact fun e => h.n1 e.symm) _) (p := ⟨u.g, 3, none⟩) (by simp [Value.ownBlock]; exact h.ggs) _
  · have h4 := h.rdn
    rw [hd] at h4
    have := own_take h4 (m := ks.length) (by simp)
    simp only [Nat.mul_one, List.reverse_cons, List.map_append, List.map_cons, List.map_nil] at this
    rw [List.take_append_of_le_length (by simp)] at this
    rw [List.take_of_length_le (by simp)] at this
    exact own_far (own_far (own_far (own_far this (p := ⟨u.g, 2, none⟩) (by simp [Value.ownBlock]; exact hgg) _) (p := ⟨u.gs, a, none⟩) (by simp [Value.ownBlock]; exact n3) _) (p := ⟨u.gu, b, none⟩) (by simp [Value.ownBlock]; exact n2) _) (p := ⟨u.g, 3, none⟩) (by simp [Value.ownBlock]; exact hgg) _
  · exact (((((Chg.refl u.fp w).setCell (p := ⟨u.g, 2, none⟩) (fun _ => .inl rfl) _).setCell (p := ⟨u.gs, a, none⟩) (fun _ => .inr (.inr (.inl rfl))) _).setCell (p := ⟨u.gu, b, none⟩) (fun _ => .inr (.inl rfl)) _).setCell (p := ⟨u.g, 3, none⟩) (fun _ => .inl rfl) _)
  · rintro k (rfl | rfl | rfl | hk)
    · exact .inl (.inl rfl)
    · exact .inl (.inr (.inl rfl))
    · exact .inl (.inr (.inr (.inl rfl)))
    · exact .inl (.inr (.inr (.inr (by rw [hd]; exact hk))))

set_option maxHeartbeats 400000 in
theorem back_no (w : World) (u : Uni) (n : Nat) (hs : UF.Hs) (h : UAt w u n hs) (m : Int) (hm : m < 0 ∨ (hs.length : Int) < m) :
    Calls Try.prog 68 #[.pointer (some ⟨u.g, 0, none⟩), .int .i64 m] w fun e w' => e = .returned (errVU 1) ∧ w = w' := by
  obtain ⟨A, c, hv, _⟩ := own_slice h.rdn
  have hb0 : w.cell? ⟨u.g, 2, none⟩ = some (.slice A hs.length c) := by rw [← hv]; exact h.blk.cell 2
  clear h hv
  by_cases h1 : m < 0
  · clear hm
    go_enter Try.func68, Try.ntmps68
    go_wp2
    go_ret
    exact ⟨rfl, rfl⟩
  · have h2 : (hs.length : Int) < m := by omega
    clear hm
    go_enter Try.func68, Try.ntmps68
    go_wp2
    go_ret
    exact ⟨rfl, rfl⟩

set_option maxHeartbeats 1000000 in
theorem back_yes (w : World) (u : Uni) (n : Nat) (hs : UF.Hs) (h : UAt w u n hs) (m : Nat) (hm : m ≤ hs.length) :
    Calls Try.prog 68 #[.pointer (some ⟨u.g, 0, none⟩), .int .i64 m] w (BackPost w u n m hs) := by
  obtain ⟨A, c, hv, _⟩ := own_slice h.rdn
  have hb0 : w.cell? ⟨u.g, 2, none⟩ = some (.slice A hs.length c) := by rw [← hv]; exact h.blk.cell 2
  have HH := Lib.hid h
  have hg : u.g = u.g := rfl
  have t1 : ¬ ((m : Int) < 0) := by omega
  have t2 : decide (hs.length < m) = false := by simp only [decide_eq_false_iff_not]; omega
  clear h hv
  go_enter Try.func68, Try.ntmps68
  go_wp2
  clear hb0 t2 hg
  go_loopg [5] (hs.length - m) (fun k _ wr => BackRel w u n m hs k wr)
  case atStart => exact ⟨u, hs, [], by omega, rfl, HH.out, Moved.refl _ _⟩
  case round =>
    by_cases e : gk = 0
    · subst e
      have HE := Lib.hid (back_end hrel)
      obtain ⟨u', ks, pre, h1, h2, h3, h4⟩ := hrel
      have hgg := h4.1
      obtain ⟨A', c', hv', _⟩ := own_slice h3.rdn
      have hb0 : wr.cell? ⟨u.g, 2, none⟩ = some (.slice A' ks.length c') := by rw [← hv', ← hgg]; exact h3.blk.cell 2
      have t3 : decide (m < ks.length) = false := by simp only [decide_eq_false_iff_not]; omega
      clear h1 h2 h3 h4 hgg hv'
      go_wp2
      go_ret
      exact HE.out
    · obtain ⟨u', ks, pre, h1, h2, h3, h4⟩ := hrel
      match ks, h1, h2, h3 with
      | [], h1, _, _ => exact absurd h1 (by simp; omega)
      | (a, b) :: ks, h1, h2, h3 =>
        have hgg := h4.1
        obtain ⟨gd, cd, hd, hcd, _⟩ := own_form h3.rdn (by simp)
        simp only [List.length_cons] at hd h1 hcd
        have h1' : Hid (ks.length + 1 = m + gk) := h1
        have HP : Hid (hs = (pre ++ [(a, b)]) ++ ks) := by unfold Hid; rw [h2]; simp
        have HS := Lib.hid (fun k => back_step (h3.drewN k) hd)
        have HM := Lib.hid h4
        obtain ⟨ho, la, lb, ra, rb, hne⟩ := h3.ok
        have b0 : wr.cell? ⟨u.g, 0, none⟩ = some (.slice (some ⟨u'.gu, 0, none⟩) n u'.cu) := by rw [← hgg]; exact h3.blk.cell 0
        have b1 : wr.cell? ⟨u.g, 1, none⟩ = some (.slice (some ⟨u'.gs, 0, none⟩) n u'.cs) := by rw [← hgg]; exact h3.blk.cell 1
        have b2 : wr.cell? ⟨u.g, 2, none⟩ = some (.slice (some ⟨gd, 0, none⟩) (ks.length + 1) cd) := by rw [← hgg, ← hd]; exact h3.blk.cell 2
        have b3 : wr.cell? ⟨u.g, 3, none⟩ = some (.int .i64 ((n : Int) - ((ks.length + 1 : Nat) : Int))) := by rw [← hgg]; exact h3.blk.cell 3
        have d0 : wr.cell? ⟨gd, ks.length, none⟩ = some (.int .i64 (b : Nat)) := by
          have := h3.rdn; rw [hd] at this
          rw [this.cellAt ks.length (by simp)]; simp
        have s1 : wr.cell? ⟨u'.gs, a, none⟩ = some (.int .i64 ((UF.sz ks a + UF.sz ks b : Nat) : Int)) := by rw [h3.sz_cell la]; simp [UF.sz]
        have s2 : wr.cell? ⟨u'.gs, b, none⟩ = some (.int .i64 (UF.sz ks b : Nat)) := by rw [h3.sz_cell lb]; simp [UF.sz, Ne.symm hne]
        have s3 : wr.cell? ⟨u'.gu, b, none⟩ = some (.int .i64 (a : Nat)) := by rw [h3.up_cell lb]; simp [UF.up]
        have f0 : ∀ i, wr.frozen? ⟨u.g, i, none⟩ = false := fun i => by rw [← hgg]; exact h3.blk.frozen i
        have f1 : ∀ i, wr.frozen? ⟨u'.gu, i, none⟩ = false := fun i => h3.rup.frozenAt i
        have f2 : ∀ i, wr.frozen? ⟨u'.gs, i, none⟩ = false := fun i => h3.rsz.frozenAt i
        have n1 : ¬ (u'.gu = u'.gs) := h3.n1
        have n2 : ¬ (u'.gu = u.g) := by rw [← hgg]; exact h3.ggu
        have n3 : ¬ (u'.gs = u.g) := by rw [← hgg]; exact h3.ggs
        have hle := h3.le
        have hll : ks.length < n := by have := UF.len_lt h3.ok h3.pos; simp only [List.length_cons] at this; omega
        have z1 := UF.sz_le h3.ok la
        simp only [UF.sz, if_true] at z1
        have x1 : (0 : Int) ≤ (a : Int) := by omega
        have x2 : (a : Int) < (n : Int) := by omega
        have x3 : (0 : Int) ≤ (b : Int) := by omega
        have x4 : (b : Int) < (n : Int) := by omega
        have x5 : (0 : Int) ≤ (ks.length : Int) := by omega
        have t3 : (m : Int) < (ks.length : Int) + 1 := by omega
        have HG := Lib.hid hgg
        clear h1 h2 h3 h4 hgg hd ra rb ho
        go_wp2
        go_quiet (fail)
        go_wp2
        go_region
        go_wp2
        go_region
        go_wp2
        go_roundg (gk - 1)
        case measure => omega
        case rel =>
          obtain ⟨u2, hU, hM⟩ := HS.out (nq + 1)
          rw [HG.out] at hU hM
          have h1 := h1'.out
          exact ⟨u2, ks, pre ++ [(a, b)], by omega, HP.out, hU.drew, HM.out.trans ((Moved.same u' (below_drewN' (Below.refl _ _) (nq + 1))).trans ⟨hM.1, hM.2.1.drew, hM.2.2⟩)⟩

/-- Join for every two numbers: the hangs behind it; whether something new was joined. -/
def joinI (n : Nat) (hs : UF.Hs) (a b : Int) : UF.Hs := if nodeB n [a, b] then UF.join hs a.toNat b.toNat else hs
def joinB (n : Nat) (hs : UF.Hs) (a b : Int) : Bool := nodeB n [a, b] && UF.rt hs a.toNat != UF.rt hs b.toNat
def joinE (n : Nat) (a b : Int) : Value := if nodeB n [a, b] then .nilIface else errVU 1
def JoinAny (w : World) (u : Uni) (n : Nat) (hs : UF.Hs) (a b : Int) (e : Ending) (w' : World) : Prop :=
  ∃ u' : Uni, e = .returned (.tuple #[.bool (joinB n hs a b), joinE n a b]) ∧ UAt w' u' n (joinI n hs a b) ∧ Moved w u u' w'
theorem join_any (w : World) (u : Uni) (n : Nat) (hs : UF.Hs) (h : UAt w u n hs) (a b : Int) :
    Calls Try.prog 66 #[.pointer (some ⟨u.g, 0, none⟩), .int .i64 a, .int .i64 b] w (JoinAny w u n hs a b) := by
  by_cases hr : nodeB n [a, b] = true
  · have hr' := hr
    simp [nodeB] at hr'
    obtain ⟨⟨a0, a1⟩, b0, b1⟩ := hr'
    obtain ⟨a, rfl⟩ := Int.eq_ofNat_of_zero_le a0
    obtain ⟨b, rfl⟩ := Int.eq_ofNat_of_zero_le b0
    have ha : a < n := by omega
    have hb : b < n := by omega
    by_cases e : UF.rt hs a = UF.rt hs b
    · refine (join_same w u n hs h a b ha hb e).mono ?_
      rintro e1 w' ⟨rfl, hb'⟩
      exact ⟨u, by simp [joinB, joinE, hr, e], by simp only [joinI, hr, if_true, UF.join, Int.toNat_natCast, e]; exact h.new hb', Moved.same u hb'⟩
    · by_cases hsz : UF.sz hs (UF.rt hs a) < UF.sz hs (UF.rt hs b)
      · refine (join_yes w u n hs h a b (UF.rt hs b) (UF.rt hs a) ha hb (fun e' => e e'.symm) (.inr ⟨rfl, rfl, hsz⟩)).mono ?_
        rintro e1 w' ⟨u', rfl, hU, hM⟩
        exact ⟨u', by simp [joinB, joinE, hr, e], by simp only [joinI, hr, if_true, UF.join, Int.toNat_natCast, e, if_false, hsz]; exact hU, hM⟩
      · refine (join_yes w u n hs h a b (UF.rt hs a) (UF.rt hs b) ha hb e (.inl ⟨rfl, rfl, hsz⟩)).mono ?_
        rintro e1 w' ⟨u', rfl, hU, hM⟩
        exact ⟨u', by simp [joinB, joinE, hr, e], by simp only [joinI, hr, if_true, UF.join, Int.toNat_natCast, e, if_false, hsz]; exact hU, hM⟩
  · have hr' : nodeB n [a, b] = false := by simpa using hr
    refine (join_no w u n hs h a b hr').mono ?_
    rintro e1 w' ⟨rfl, hb'⟩
    exact ⟨u, by simp [joinB, joinE, hr'], by simp only [joinI, hr', Bool.false_eq_true, if_false]; exact h.new hb', Moved.same u hb'⟩
end Go.Proofs.Ytlcnoihmhaaekaa
namespace Go.Proofs.Ytlcnoihmhaaekaa
open Go Go.RowKit
set_option linter.unusedVariables false

/-- What Join leaves, of two nodes that there are. -/
def JoinIn (w : World) (u : Uni) (n : Nat) (hs : UF.Hs) (a b : Int) (e : Ending) (w' : World) : Prop :=
  ∃ u' : Uni, e = .returned (.tuple #[.bool (UF.rt hs a.toNat != UF.rt hs b.toNat), .nilIface]) ∧ UAt w' u' n (UF.join hs a.toNat b.toNat) ∧ Moved w u u' w'
theorem join_in {w : World} {u : Uni} {n g : Nat} {hs : UF.Hs} (h : UAt w u n hs) (hg : u.g = g) (a b : Int) (ha : 0 ≤ a ∧ a < n) (hb : 0 ≤ b ∧ b < n) :
    Calls Try.prog 66 #[.pointer (some ⟨g, 0, none⟩), .int .i64 a, .int .i64 b] w (JoinIn w u n hs a b) := by
  subst hg
  have hr : nodeB n [a, b] = true := by unfold nodeB; simp; omega
  refine (join_any w u n hs h a b).mono ?_
  rintro e w' ⟨u', rfl, h1, h2⟩
  exact ⟨u', by simp [joinB, joinE, hr], by simpa only [joinI, hr, if_true] using h1, h2⟩
theorem same_in {w : World} {u : Uni} {n g : Nat} {hs : UF.Hs} (h : UAt w u n hs) (hg : u.g = g) (a b : Int) (ha : 0 ≤ a ∧ a < n) (hb : 0 ≤ b ∧ b < n) :
    Calls Try.prog 67 #[.pointer (some ⟨g, 0, none⟩), .int .i64 a, .int .i64 b] w fun e w' => e = .returned (.tuple #[.bool (UF.rt hs a.toNat == UF.rt hs b.toNat), .nilIface]) ∧ Below w.heap.size w w' := by
  subst hg
  obtain ⟨a', rfl⟩ := Int.eq_ofNat_of_zero_le ha.1
  obtain ⟨b', rfl⟩ := Int.eq_ofNat_of_zero_le hb.1
  exact same_yes w u n hs h a' b' (by omega) (by omega)
theorem mark_in {w : World} {u : Uni} {n g : Nat} {hs : UF.Hs} (h : UAt w u n hs) (hg : u.g = g) :
    Calls Try.prog 65 #[.pointer (some ⟨g, 0, none⟩)] w fun e w' => e = .returned (.int .i64 (hs.length : Nat)) ∧ w = w' := by subst hg; exact mark_any w u n hs h
theorem back_in {w : World} {u : Uni} {n g : Nat} {hs : UF.Hs} (h : UAt w u n hs) (hg : u.g = g) (m : Nat) (hm : m ≤ hs.length) :
    Calls Try.prog 68 #[.pointer (some ⟨g, 0, none⟩), .int .i64 m] w (BackPost w u n m hs) := by subst hg; exact back_yes w u n hs h m hm
end Go.Proofs.Ytlcnoihmhaaekaa

/-
  Walk of union.Back, and Join for every two numbers. Condition: the union lies in memory as 'UAt' says.
-/
import Derived.Test.YtckcbfnffmohgaaDoorUn2
import Derived.Deep.LoopGhost
namespace Go.Proofs.YtckcbfnffmohgaaDoor
open Go Go.RowKit

theorem Moved.refl (w : World) (u : Uni) : Moved w u u w := Moved.same u (Below.refl _ _)
theorem Moved.trans {w w1 w2 : World} {u u1 u2 : Uni} (h : Moved w u u1 w1) (k : Moved w1 u1 u2 w2) : Moved w u u2 w2 := by
  obtain ⟨h1, h2, h3⟩ := h
  obtain ⟨k1, k2, k3⟩ := k
  refine ⟨k1.trans h1, h2.trans k2 (fun i hi hS => ?_), fun i hi => ?_⟩
  · rcases h3 i hS with h | h
    · exact h
    · omega
  · rcases k3 i hi with h | h
    · exact h3 i h
    · have := h2.size; right; omega

/-- How far Back has come: k hangs are still to be taken back. -/
def BackRel (w : World) (u : Uni) (n m : Nat) (hs : UF.Hs) (k : Nat) (wr : World) : Prop :=
  ∃ (u' : Uni) (ks pre : UF.Hs), ks.length = m + k ∧ hs = pre ++ ks ∧ UAt wr u' n ks ∧ Moved w u u' wr
def BackPost (w : World) (u : Uni) (n m : Nat) (hs : UF.Hs) (e : Ending) (w' : World) : Prop :=
  ∃ u' : Uni, e = .returned .nilIface ∧ UAt w' u' n (hs.drop (hs.length - m)) ∧ Moved w u u' w'
theorem back_end {w wr : World} {u : Uni} {n m : Nat} {hs : UF.Hs} (h : BackRel w u n m hs 0 wr) : BackPost w u n m hs (.returned .nilIface) wr := by
  obtain ⟨u', ks, pre, h1, rfl, h3, h4⟩ := h
  refine ⟨u', rfl, ?_, h4⟩
  have : (pre ++ ks).length - m = pre.length := by simp; omega
  rw [this, List.drop_left]; exact h3

theorem back_step {w : World} {u : Uni} {n a b gd cd : Nat} {ks : UF.Hs} (h : UAt w u n ((a, b) :: ks)) (hd : u.dv = .slice (some ⟨gd, 0, none⟩) (ks.length + 1) cd) :
    ∃ u' : Uni, UAt ((((w.setCell ⟨u.g, 2, none⟩ (.slice (some ⟨gd, 0, none⟩) ks.length cd)).setCell ⟨u.gs, a, none⟩ (.int .i64 (UF.sz ks a : Nat))).setCell ⟨u.gu, b, none⟩ (.int .i64 (b : Int))).setCell ⟨u.g, 3, none⟩ (.int .i64 ((n : Int) - ((ks.length : Int) + 1) + 1))) u' n ks ∧
      Moved w u u' ((((w.setCell ⟨u.g, 2, none⟩ (.slice (some ⟨gd, 0, none⟩) ks.length cd)).setCell ⟨u.gs, a, none⟩ (.int .i64 (UF.sz ks a : Nat))).setCell ⟨u.gu, b, none⟩ (.int .i64 (b : Int))).setCell ⟨u.g, 3, none⟩ (.int .i64 ((n : Int) - ((ks.length : Int) + 1) + 1))) := by
  obtain ⟨ho, la, lb, ra, rb, hne⟩ := h.ok
  have hgg := h.ggd
  have n2 := h.n2
  have n3 := h.n3
  rw [hd] at hgg n2 n3
  simp only [Value.ownBlock, ne_eq, Option.some.injEq] at hgg n2 n3
  refine ⟨⟨u.g, u.gu, u.cu, u.gs, u.cs, .slice (some ⟨gd, 0, none⟩) ks.length cd⟩, ⟨ho, h.pos, h.le, ?_, ?_, ?_, ?_, h.n1, by simp [Value.ownBlock]; exact n2, by simp [Value.ownBlock]; exact n3⟩, rfl, ?_, ?_⟩
  · have := (((h.blk.set_ 2 (.slice (some ⟨gd, 0, none⟩) ks.length cd)).far (p := ⟨u.gs, a, none⟩) (fun e => h.ggs e.symm) (.int .i64 (UF.sz ks a : Nat))).far (p := ⟨u.gu, b, none⟩) (fun e => h.ggu e.symm) (.int .i64 (b : Int))).set_ 3 (.int .i64 ((n : Int) - ((ks.length : Int) + 1) + 1))
    have e : ((n : Int) - ((ks.length : Int) + 1) + 1) = (n : Int) - (ks.length : Int) := by omega
    rw [e] at this ⊢
    exact this
  · have := own_far (own_far h.rup (p := ⟨u.g, 2, none⟩) (by simp [Value.ownBlock]; exact h.ggu) (.slice (some ⟨gd, 0, none⟩) ks.length cd)) (p := ⟨u.gs, a, none⟩) (by simp [Value.ownBlock]; exact h.n1) (.int .i64 (UF.sz ks a : Nat))
    have := (this.stored b (.int .i64 (b : Int))).1
    rw [i64v_set] at this
    rw [i64v_congr (g := UF.up ks) (fun i _ => by
      by_cases e : i = b
      · subst e; simp [(UF.up_self ho).2 rb]
      · simp [e, UF.up])] at this
    exact own_far this (p := ⟨u.g, 3, none⟩) (by simp [Value.ownBlock]; exact h.ggu) _
  · have := own_far h.rsz (p := ⟨u.g, 2, none⟩) (by simp [Value.ownBlock]; exact h.ggs) (.slice (some ⟨gd, 0, none⟩) ks.length cd)
    have := (this.stored a (.int .i64 (UF.sz ks a : Nat))).1
    rw [i64v_set] at this
    rw [i64v_congr (g := UF.sz ks) (fun i _ => by
      by_cases e : i = a
      · subst e; simp
      · simp [e, UF.sz])] at this
    exact own_far (own_far this (p := ⟨u.gu, b, none⟩) (by simp [Value.ownBlock]; exact fun e => h.n1 e.symm) _) (p := ⟨u.g, 3, none⟩) (by simp [Value.ownBlock]; exact h.ggs) _
  · have h4 := h.rdn
    rw [hd] at h4
    have := own_take h4 (m := ks.length) (by simp)
    simp only [Nat.mul_one, List.reverse_cons, List.map_append, List.map_cons, List.map_nil] at this
    rw [List.take_append_of_le_length (by simp)] at this
    rw [List.take_of_length_le (by simp)] at this
    exact own_far (own_far (own_far (own_far this (p := ⟨u.g, 2, none⟩) (by simp [Value.ownBlock]; exact hgg) _) (p := ⟨u.gs, a, none⟩) (by simp [Value.ownBlock]; exact n3) _) (p := ⟨u.gu, b, none⟩) (by simp [Value.ownBlock]; exact n2) _) (p := ⟨u.g, 3, none⟩) (by simp [Value.ownBlock]; exact hgg) _
  · exact (((((Chg.refl u.fp w).setCell (p := ⟨u.g, 2, none⟩) (fun _ => .inl rfl) _).setCell (p := ⟨u.gs, a, none⟩) (fun _ => .inr (.inr (.inl rfl))) _).setCell (p := ⟨u.gu, b, none⟩) (fun _ => .inr (.inl rfl)) _).setCell (p := ⟨u.g, 3, none⟩) (fun _ => .inl rfl) _)
  · rintro k (rfl | rfl | rfl | hk)
    · exact .inl (.inl rfl)
    · exact .inl (.inr (.inl rfl))
    · exact .inl (.inr (.inr (.inl rfl)))
    · exact .inl (.inr (.inr (.inr (by rw [hd]; exact hk))))

/-- Join for every two numbers: the hangs behind it; whether something new was joined. -/
def joinI (n : Nat) (hs : UF.Hs) (a b : Int) : UF.Hs := if nodeB n [a, b] then UF.join hs a.toNat b.toNat else hs
def joinB (n : Nat) (hs : UF.Hs) (a b : Int) : Bool := nodeB n [a, b] && UF.rt hs a.toNat != UF.rt hs b.toNat
def joinE (n : Nat) (a b : Int) : Value := if nodeB n [a, b] then .nilIface else errVU 1
def JoinAny (w : World) (u : Uni) (n : Nat) (hs : UF.Hs) (a b : Int) (e : Ending) (w' : World) : Prop :=
  ∃ u' : Uni, e = .returned (.tuple #[.bool (joinB n hs a b), joinE n a b]) ∧ UAt w' u' n (joinI n hs a b) ∧ Moved w u u' w'
theorem join_any (w : World) (u : Uni) (n : Nat) (hs : UF.Hs) (h : UAt w u n hs) (a b : Int) :
    Calls Tryd.prog 25 #[.pointer (some ⟨u.g, 0, none⟩), .int .i64 a, .int .i64 b] w (JoinAny w u n hs a b) := by
  by_cases hr : nodeB n [a, b] = true
  · have hr' := hr
    simp [nodeB] at hr'
    obtain ⟨⟨a0, a1⟩, b0, b1⟩ := hr'
    obtain ⟨a, rfl⟩ := Int.eq_ofNat_of_zero_le a0
    obtain ⟨b, rfl⟩ := Int.eq_ofNat_of_zero_le b0
    have ha : a < n := by omega
    have hb : b < n := by omega
    by_cases e : UF.rt hs a = UF.rt hs b
    · refine (join_same w u n hs h a b ha hb e).mono ?_
      rintro e1 w' ⟨rfl, hb'⟩
      exact ⟨u, by simp [joinB, joinE, hr, e], by simp only [joinI, hr, if_true, UF.join, Int.toNat_natCast, e]; exact h.new hb', Moved.same u hb'⟩
    · by_cases hsz : UF.sz hs (UF.rt hs a) < UF.sz hs (UF.rt hs b)
      · refine (join_yes w u n hs h a b (UF.rt hs b) (UF.rt hs a) ha hb (fun e' => e e'.symm) (.inr ⟨rfl, rfl, hsz⟩)).mono ?_
        rintro e1 w' ⟨u', rfl, hU, hM⟩
        exact ⟨u', by simp [joinB, joinE, hr, e], by simp only [joinI, hr, if_true, UF.join, Int.toNat_natCast, e, if_false, hsz]; exact hU, hM⟩
      · refine (join_yes w u n hs h a b (UF.rt hs a) (UF.rt hs b) ha hb e (.inl ⟨rfl, rfl, hsz⟩)).mono ?_
        rintro e1 w' ⟨u', rfl, hU, hM⟩
        exact ⟨u', by simp [joinB, joinE, hr, e], by simp only [joinI, hr, if_true, UF.join, Int.toNat_natCast, e, if_false, hsz]; exact hU, hM⟩
  · have hr' : nodeB n [a, b] = false := by simpa using hr
    refine (join_no w u n hs h a b hr').mono ?_
    rintro e1 w' ⟨rfl, hb'⟩
    exact ⟨u, by simp [joinB, joinE, hr'], by simp only [joinI, hr', Bool.false_eq_true, if_false]; exact h.new hb', Moved.same u hb'⟩
end Go.Proofs.YtckcbfnffmohgaaDoor

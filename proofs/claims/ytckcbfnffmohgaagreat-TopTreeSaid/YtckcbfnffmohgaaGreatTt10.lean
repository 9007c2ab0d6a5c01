/-
  Walks of tour's Cut (either order), Same, Members, Size. Condition: the forest lies in memory as 'FoAt' says.
-/
import Derived.Test.YtckcbfnffmohgaaGreatTt8
import Derived.Test.YtckcbfnffmohgaaGreatTt9
namespace Go.Proofs.YtckcbfnffmohgaaGreat
open Go Go.RowKit SQ TR DF PD
set_option linter.unusedVariables false

/-- The nodes that hang together with a node, rising. -/
noncomputable def comp (n : Nat) (E : List AK.Ed) (a : Nat) : List Int := ((List.range n).filter fun u => by classical exact decide (Cn (adj E) a u)).map fun (x : Nat) => (x : Int)
theorem comp_mem {n a : Nat} {E : List AK.Ed} {x : Int} : x ∈ comp n E a ↔ ∃ u : Nat, u < n ∧ Cn (adj E) a u ∧ x = (u : Int) := by
  unfold comp
  rw [List.mem_map]
  constructor
  · rintro ⟨u, hu, rfl⟩
    rw [List.mem_filter, List.mem_range] at hu
    exact ⟨u, hu.1, by simpa using hu.2, rfl⟩
  · rintro ⟨u, h1, h2, rfl⟩
    exact ⟨u, List.mem_filter.2 ⟨List.mem_range.2 h1, by simpa using h2⟩, rfl⟩
theorem comp_up (n : Nat) (E : List AK.Ed) (a : Nat) : (comp n E a).Pairwise (fun x y => x < y) := by
  unfold comp
  rw [List.pairwise_map]
  exact (List.pairwise_lt_range.filter _).imp (fun h => by omega)
theorem up_ext {l m : List Int} (hl : l.Pairwise (fun x y => x < y)) (hm : m.Pairwise (fun x y => x < y)) (h : ∀ x, x ∈ l ↔ x ∈ m) : l = m := by
  induction l generalizing m with
  | nil =>
    cases m with
    | nil => rfl
    | cons y m => exact absurd ((h y).2 (List.mem_cons_self ..)) (List.not_mem_nil)
  | cons x l ih =>
    cases m with
    | nil => exact absurd ((h x).1 (List.mem_cons_self ..)) (List.not_mem_nil)
    | cons y m =>
      rw [List.pairwise_cons] at hl hm
      have e : x = y := by
        rcases List.mem_cons.1 ((h x).1 (List.mem_cons_self ..)) with w | w
        · exact w
        · rcases List.mem_cons.1 ((h y).2 (List.mem_cons_self ..)) with z | z
          · exact z.symm
          · have := hl.1 y z; have := hm.1 x w; omega
      subst e
      congr 1
      refine ih hl.2 hm.2 fun z => ⟨fun w => ?_, fun w => ?_⟩
      · rcases List.mem_cons.1 ((h z).1 (List.mem_cons_of_mem _ w)) with q | q
        · subst q; have := hl.1 z w; omega
        · exact q
      · rcases List.mem_cons.1 ((h z).2 (List.mem_cons_of_mem _ w)) with q | q
        · subst q; have := hm.1 z w; omega
        · exact q
theorem sorted_up {xs : List Int} (h : xs.Nodup) : (sorted xs).Pairwise (fun x y => x < y) := by
  have h1 := sorted_rises xs
  have h2 : (sorted xs).Nodup := (List.mergeSort_perm xs _).nodup_iff.2 h
  exact (h1.and h2).imp (fun ⟨a, b⟩ => by omega)
theorem comp_sorted {n r a : Nat} {E : List AK.Ed} {l : List Int} (h : TR.Way (adj E) r l) (hr : r < n) (hE : Fo n E) (hn : n ≤ 60) (c : Cn (adj E) a r) : sorted (mks l) = comp n E a := by
  obtain ⟨h1, h2, h3⟩ := h.mks hr hE hn
  refine up_ext (sorted_up h1) (comp_up n E a) fun x => ?_
  rw [sorted_mem, comp_mem]
  constructor
  · intro hx
    obtain ⟨v, v1, v2, v3⟩ := h2 x hx
    exact ⟨v, v2, c.trans v3, v1⟩
  · rintro ⟨u, u1, u2, rfl⟩
    exact h3 u u1 (c.symm.trans u2)
section
variable {w : World} {F : FoP} {n N : Nat} {E : List AK.Ed}
theorem tcut_ok (h : FoAt w F n N E) (hN : N + 1 < 1000000) (a b : Nat) (hab : adj E a b) :
    Calls Tryz.prog 55 #[.pointer (some ⟨F.fb, 0, none⟩), .int .i64 a, .int .i64 b] w (CutPost w F n N (cutE (AK.ek a b) E)) := by
  obtain ⟨p, s, m, h1, h2, h3, h4⟩ := h.ways
  obtain ⟨ha, hb, hne⟩ := adj_in h.fo.ok hab
  obtain ⟨r, r1, r2, r3⟩ := h1.pa a ha
  have h60 := h.hn
  have rr : g p r = r := by rw [h1.same r3, r1]
  obtain ⟨q, l, k1, k2, k3⟩ := h4 r (by omega) rr
  have m1 : st a b ∈ l := k3.st a b hab r3
  have m2 : st b a ∈ l := k3.st b a (adj_symm hab) (r3.trans (.edge hab))
  obtain ⟨x, y, hl⟩ := List.append_of_mem m1
  have hne2 : st b a ≠ st a b := fun e => hne (st_inj (by omega) (by omega) e).1.symm
  rw [hl, List.mem_append, List.mem_cons] at m2
  rcases m2 with m2 | m2 | m2
  · obtain ⟨x1, x2, hx⟩ := List.append_of_mem m2
    have := tcut_B h hN b a (adj_symm hab) h1 h2 h3 h4 (low := x1) (mid := x2) (high := y) (r := r) r1 k1 k2 (k3.re (r3.trans (.edge hab))) (by rw [hl, hx])
    rw [GMek b a] at this
    exact this
  · exact absurd m2 hne2
  · obtain ⟨y1, y2, hy⟩ := List.append_of_mem m2
    exact tcut_A h hN a b hab h1 h2 h3 h4 (low := x) (mid := y1) (high := y2) (r := r) r1 k1 k2 (k3.re r3) (by rw [hl, hy]; simp)
set_option maxHeartbeats 1000000 in
theorem tsame_range (h : FoAt w F n N E) (a b : Int) (hr : ¬ (0 ≤ a ∧ a < n) ∨ ¬ (0 ≤ b ∧ b < n)) :
    Calls Tryz.prog 57 #[.pointer (some ⟨F.fb, 0, none⟩), .int .i64 a, .int .i64 b] w fun e w' => e = .returned (.tuple #[.bool false, errV 1]) ∧ w = w' := by
  by_cases ha : 0 ≤ a ∧ a < n
  · have hb : ¬ (0 ≤ b ∧ b < n) := by omega
    have h1 := Lib.hid (tnode_any h a true (by simp [ha]))
    have h2 := Lib.hid (tnode_any h b false (by simp only [hb, decide_false]))
    clear hr ha hb h
    go_enter Tryz.func57, Tryz.ntmps57
    go_wp2_with fail
    refine h1.out.mono ?_
    rintro e w' ⟨rfl, rfl⟩
    go_wp2_with fail
    refine h2.out.mono ?_
    rintro e w' ⟨rfl, rfl⟩
    go_wp2
    go_ret2
    exact ⟨rfl, rfl⟩
  · have h1 := Lib.hid (tnode_any h a false (by simp only [ha, decide_false]))
    clear hr ha h
    go_enter Tryz.func57, Tryz.ntmps57
    go_wp2_with fail
    refine h1.out.mono ?_
    rintro e w' ⟨rfl, rfl⟩
    go_wp2
    go_ret2
    exact ⟨rfl, rfl⟩
set_option maxHeartbeats 1000000 in
theorem tsame_ok (h : FoAt w F n N E) (a b : Nat) (ha : a < n) (hb : b < n) (t : Bool) (ht : t = true ↔ Cn (adj E) a b) :
    Calls Tryz.prog 57 #[.pointer (some ⟨F.fb, 0, none⟩), .int .i64 a, .int .i64 b] w fun e w' => e = .returned (.tuple #[.bool t, .nilIface]) ∧ Ext w w' := by
  have c1 : w.cell? ⟨F.fb, 1, none⟩ = some (.slice (some ⟨F.rb, 0, none⟩) n F.c) := h.blk.cell 1
  obtain ⟨p, s, m, h1, h2, h3, h4⟩ := h.ways
  have e1 := root_cell h2 h1.len ha
  have e2 := root_cell h2 h1.len hb
  have hg : (PD.g p a == PD.g p b) = t := by
    rw [Bool.eq_iff_iff, beq_iff_eq, ht]; exact h1.joined ha hb
  generalize PD.g p a = ra at e1 hg
  generalize PD.g p b = rb at e2 hg
  have N1 := Lib.hid (tnode_any h a true (by simp [ha]))
  have N2 := Lib.hid (tnode_any h b true (by simp [hb]))
  have z1 : (a : Int) < (n : Int) := by omega
  have z2 : (b : Int) < (n : Int) := by omega
  have HT := Lib.hid hg
  clear h h1 h2 h3 h4 ht hg
  go_enter Tryz.func57, Tryz.ntmps57
  go_wp2_with fail
  refine N1.out.mono ?_
  rintro e w' ⟨rfl, rfl⟩
  go_wp2_with fail
  refine N2.out.mono ?_
  rintro e w' ⟨rfl, rfl⟩
  go_wp2
  go_quiet (fail)
  go_wp2
  go_ret2
  refine ⟨?_, Ext.drewN _ _⟩
  have ht := HT.out
  subst ht
  first | rfl | simp
def MemPost (w : World) (xs : List Int) (e : Ending) (w' : World) : Prop := ∃ A c, e = .returned (.tuple #[.slice A xs.length c, .nilIface]) ∧ w'.ownsRow 0 3 1 (.slice A xs.length c) xs.length (intsV xs) ∧ Ext w w' ∧ ∀ k, (Value.slice A xs.length c).ownBlock = some k → w.heap.size ≤ k
set_option maxRecDepth 100000 in
set_option maxHeartbeats 1000000 in
theorem tmembers_ok (h : FoAt w F n N E) (a : Nat) (ha : a < n) :
    Calls Tryz.prog 90 #[.pointer (some ⟨F.fb, 0, none⟩), .int .i64 a] w (MemPost w (comp n E a)) := by
  have c0 : w.cell? ⟨F.fb, 0, none⟩ = some (.map (some F.mb)) := h.blk.cell 0
  have c1 : w.cell? ⟨F.fb, 1, none⟩ = some (.slice (some ⟨F.rb, 0, none⟩) n F.c) := h.blk.cell 1
  obtain ⟨p, s, m, h1, h2, h3, h4⟩ := h.ways
  have h60 := h.hn
  obtain ⟨r, r1, r2, r3⟩ := h1.pa a ha
  have e1 := root_cell h2 h1.len ha
  rw [r1] at e1
  have rr : g p r = r := by rw [h1.same r3, r1]
  obtain ⟨q, l, k1, k2, k3⟩ := h4 r (by omega) rr
  have hlk : ∀ k, (Instr.lookup 146 (.map (some F.mb)) (.int .i64 r) false).run Tryz.prog (w.drewN k) = .ok (.pointer q) (w.drewN k) := fun k => by
    have := (h3.ext (Ext.drewN w k)).look Tryz.underlying146 (zeroSeq _) (r : Int) (WalkArith.wf_i64 (by omega))
    rw [k1] at this
    exact this
  have hlk1 : (Instr.lookup 146 (.map (some F.mb)) (.int .i64 r) false).run Tryz.prog w.drew = .ok (.pointer q) w.drew := by
    have := (h3.ext (Ext.drew w)).look Tryz.underlying146 (zeroSeq _) (r : Int) (WalkArith.wf_i64 (by omega))
    rw [k1] at this
    exact this
  have hll : l.length ≤ 400 := by have := k3.len h.fo h60.2; omega
  have hs : sorted (mks l) = comp n E a := comp_sorted k3 (by omega) h.fo h60.2 r3.symm
  have hlen : (mks l).length = (comp n E a).length := by rw [← hs, sorted_length]
  have h0 : 0 < l.length := by
    have := List.length_pos_of_mem ((k3.mrk a (by omega)).2 r3); exact this
  have N1 := Lib.hid (tnode_any h a true (by simp [ha]))
  have HQ := Lib.hid k2
  have HS := Lib.hid hs
  have HLN := Lib.hid hlen
  have z1 : (a : Int) < (n : Int) := by omega
  have hml : (mks l).length ≤ l.length := List.length_filter_le _ _
  clear h h1 h2 h3 h4 k1 k2 k3 rr r1 r2 r3 hs hlen
  go_enter Tryz.func90, Tryz.ntmps90
  go_wp2_with fail
  refine N1.out.mono ?_
  rintro e w' ⟨rfl, rfl⟩
  go_wp2
  go_still_tail 11, (by kernel_rfl)
  go_wp2_with fail
  refine (nodes_any (HQ.out.ext (Ext.drew w)) h0 hll).mono ?_
  rintro e w1 ⟨A, c, rfl, ho, hx, hnw⟩
  have HO := Lib.hid ho
  have HX : Hid (Ext w w1) := (Ext.drew w).trans hx
  have HNW := Lib.hid hnw
  clear ho hx hnw
  go_wp2_with fail
  refine (sort_any w1 (.slice A (mks l).length c) (mks l).length (mks l) HO.out (by omega)).mono ?_
  rintro e w2 ⟨rfl, ho, hc⟩
  have HO2 := Lib.hid ho
  have HC := Lib.hid hc
  clear ho hc
  go_wp2
  go_ret2
  have q1 := HO2.out
  have q2 := HLN.out
  rw [HS.out, q2] at q1
  refine ⟨A, c, congrArg (fun z => Ending.returned (.tuple #[.slice A z c, .nilIface])) q2, q1, ((Chg.of_below HX.out).trans HC.out (fun i hi hs => HNW.out i hs)).below (Nat.le_refl _) (fun _ _ h => h), fun k hk => HNW.out k (by rw [q2]; exact hk)⟩
end
end Go.Proofs.YtckcbfnffmohgaaGreat

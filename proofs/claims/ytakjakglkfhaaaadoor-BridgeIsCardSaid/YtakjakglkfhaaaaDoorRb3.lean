/-
  Walk of the references' JointsOf. Conditions: the edges lie in memory as 'EdsAt' says, and are edges that may be.
-/
import Derived.Test.YtakjakglkfhaaaaDoorRb2
import Derived.Test.YtakjakglkfhaaaaDoorSe
import Derived.Test.YtakjakglkfhaaaaDoorBq2
namespace Go.Proofs.YtakjakglkfhaaaaDoor
open Go Go.RowKit PT
set_option linter.unusedVariables false

/-- The edges that do not touch a. -/
def jnR (a : Nat) (e : AK.Ed) : Bool := decide (e.1 ≠ (a : Int)) && decide (e.2 ≠ (a : Int))
theorem jnR_no {l : List AK.Ed} {a : Nat} (x y : Nat) : PD.adj (l.filter (jnR a)) x y ↔ DF.No l a x y := by
  unfold DF.No PD.adj
  rw [List.mem_filter, List.mem_filter]
  simp only [jnR, Bool.and_eq_true, decide_eq_true_eq]
  constructor
  · rintro (⟨h, h1, h2⟩ | ⟨h, h1, h2⟩)
    · exact ⟨.inl h, by omega, by omega⟩
    · exact ⟨.inr h, by omega, by omega⟩
  · rintro ⟨h | h, h1, h2⟩
    · exact .inl ⟨h, by omega, by omega⟩
    · exact .inr ⟨h, by omega, by omega⟩
noncomputable def jtP (l : List AK.Ed) (a : Nat) : Bool := by classical exact decide (DF.Jt l a)
theorem jtP_iff {l : List AK.Ed} {a : Nat} : jtP l a = true ↔ DF.Jt l a := by unfold jtP; simp
noncomputable def jtsL (l : List AK.Ed) (a : Nat) : List Int := ((List.range a).filter (jtP l)).map fun (x : Nat) => (x : Int)
theorem jtsL_succ (l : List AK.Ed) (a : Nat) : jtsL l (a + 1) = jtsL l a ++ if jtP l a = true then [(a : Int)] else [] := by
  unfold jtsL
  rw [List.range_succ, List.filter_append, List.map_append]
  congr 1
  by_cases q : jtP l a = true
  · rw [if_pos q, List.filter_cons_of_pos q]; rfl
  · rw [if_neg q, List.filter_cons_of_neg q]; rfl
theorem jtsL_len (l : List AK.Ed) (a : Nat) : (jtsL l a).length ≤ a := by
  unfold jtsL
  rw [List.length_map]
  exact Nat.le_trans (List.length_filter_le _ _) (by rw [List.length_range]; exact Nat.le_refl _)
theorem jtsL_of (n : Nat) (l : List AK.Ed) : JtsOf n l (jtsL l n) := by
  refine ⟨?_, fun x => ?_⟩
  · unfold jtsL
    refine List.Pairwise.map _ (fun a b hab => ?_) (List.Pairwise.filter _ (List.pairwise_lt_range (n := n)))
    omega
  · unfold jtsL
    rw [List.mem_map]
    constructor
    · rintro ⟨c, hc, rfl⟩
      rw [List.mem_filter, List.mem_range, jtP_iff] at hc
      exact ⟨c, rfl, hc.1, hc.2⟩
    · rintro ⟨c, rfl, hc, hJ⟩
      exact ⟨c, by rw [List.mem_filter, List.mem_range, jtP_iff]; exact ⟨hc, hJ⟩, rfl⟩
theorem lt_ext {l m : List Int} (hl : l.Pairwise (fun x y => x < y)) (hm : m.Pairwise (fun x y => x < y)) (h : ∀ x, x ∈ l ↔ x ∈ m) : l = m := by
  induction l generalizing m with
  | nil =>
    cases m with
    | nil => rfl
    | cons y m => exact absurd ((h y).2 (List.mem_cons_self ..)) (List.not_mem_nil)
  | cons x l ih =>
    cases m with
    | nil => exact absurd ((h x).1 (List.mem_cons_self ..)) (List.not_mem_nil)
    | cons y m =>
      rw [List.pairwise_cons] at hl hm
      have e : x = y := by
        rcases List.mem_cons.1 ((h x).1 (List.mem_cons_self ..)) with w | w
        · exact w
        · rcases List.mem_cons.1 ((h y).2 (List.mem_cons_self ..)) with z | z
          · exact z.symm
          · have := hl.1 y z; have := hm.1 x w; omega
      subst e
      congr 1
      refine ih hl.2 hm.2 fun z => ⟨fun w => ?_, fun w => ?_⟩
      · rcases List.mem_cons.1 ((h z).1 (List.mem_cons_of_mem _ w)) with q | q
        · subst q; have := hl.1 z w; omega
        · exact q
      · rcases List.mem_cons.1 ((h z).2 (List.mem_cons_of_mem _ w)) with q | q
        · subst q; have := hm.1 z w; omega
        · exact q
theorem JtsOf.uniq {n : Nat} {l : List AK.Ed} {x y : List Int} (hx : JtsOf n l x) (hy : JtsOf n l y) : x = y :=
  lt_ext hx.1 hy.1 fun e => (hx.2 e).trans (hy.2 e).symm
def RjPost (w : World) (n : Nat) (l : List AK.Ed) (e : Ending) (w' : World) : Prop := ∃ A c x, e = .returned (.slice A (x : List Int).length c) ∧ IntsAt w' A x ∧ x.length ≤ 60 ∧ Ext w w' ∧ JtsOf n l x
set_option maxHeartbeats 4000000 in
set_option maxRecDepth 100000 in
theorem jointsOf_any (w : World) (n : Nat) (A : Option Addr) (m c : Nat) (l : List AK.Ed) (hl : l.length = m) (hm : m ≤ 200) (h : EdsAt w A l) (hn0 : 1 ≤ n) (hn : n ≤ 60) (hok : ∀ x ∈ l, 0 ≤ x.1 ∧ x.1 < x.2 ∧ x.2 < (n : Int)) :
    Calls Tryd.prog 23 #[.int .i64 (n : Int), .slice A m c] w (RjPost w n l) := by
  have H := Lib.hid h
  have HL := Lib.hid hl
  have HOK := Lib.hid hok
  clear h hl hok
  go_enter Tryd.func23, Tryd.ntmps23
  go_wp2_with fail
  refine (parts_any w A n m c l HL.out hn0 (by omega) (by omega) H.out (inn_fine HOK.out)).mono ?_
  rintro e w1 ⟨p, gp, cp, rfl, hrow, hip, hb1, _⟩
  have HI1 := Lib.hid (natv_ints hrow)
  have HPP := Lib.hid hip
  have HX1 : Hid (Ext w w1) := hb1
  clear hrow hip hb1
  go_wp2_with fail
  refine (count_any w1 _ n cp p HI1.out.1 HI1.out.2 (by omega)).mono ?_
  rintro e w2 ⟨rfl, hb2⟩
  have HX2 : Hid (Ext w w2) := Ext.trans HX1.out hb2
  obtain ⟨all, hall⟩ : ∃ t, cntP n p = t := ⟨_, rfl⟩
  rw [hall]
  have HALL := Lib.hid hall
  have hall60 : all ≤ 60 := by rw [← hall]; exact Nat.le_trans (PD.cnt_le _ _) hn
  clear HI1 HX1 hb2 hall
  go_wp2
  go_loopw [6, 7] (fun v6 v7 wr => ∃ (a : Nat) (d : List Int), a ≤ n ∧ d.length ≤ a ∧ v7 = .int .i64 a ∧ Hid (GrI w d v6 wr ∧ d = jtsL l a)) (fun _ v7 _ => n - (intOf v7).toNat)
  case atStart => exact ⟨0, [], Nat.zero_le _, Nat.le_refl _, rfl, GrI.nil HX2.out, by simp [jtsL]⟩
  case round =>
    obtain ⟨a, d, ha, hd, rfl, hR⟩ := hrel
    rename_i u6
    by_cases hlt : a < n
    · have ha0 : (0 : Int) ≤ (a : Int) := by omega
      have ha1 : (a : Int) < (n : Int) := by omega
      obtain ⟨wo, rfl⟩ : ∃ wo : World, wo = wr := ⟨_, rfl⟩
      have HG := Lib.hid hR.out
      have HJC : Hid (∀ q, IsParts n (prs (l.filter (jnR a))) q → (all + 1 < cntP n q ↔ DF.Jt l a)) := fun q hq => by
        rw [← HALL.out]
        exact DF.joint_count (prs_iff (inn_fine HOK.out)) (prs_iff (inn_fine fun z hz => HOK.out z (List.mem_filter.1 hz).1)) HPP.out hq (fun x y => jnR_no x y) hlt
          (fun u w => by rcases w with w | w <;> (have := HOK.out _ w; simp only at this; omega))
          (fun u v w => by rcases w with w | w <;> (have := HOK.out _ w; simp only at this; omega))
      clear hR
      go_wp2
      go_loopw [8, 9] (fun v8 v9 wr => ∃ (j : Nat) (r : List AK.Ed), j ≤ m ∧ r.length ≤ j ∧ v9 = .int .i64 j ∧ Hid (GrE wo r v8 wr ∧ r = (l.take j).filter (jnR a))) (fun _ v9 _ => m - (intOf v9).toNat)
      case atStart => exact ⟨0, [], Nat.zero_le _, Nat.le_refl _, rfl, GrE.nil (Ext.refl _), by simp⟩
      case round =>
        obtain ⟨j, r, hj, hr, rfl, hR⟩ := hrel
        rename_i u8
        by_cases hjl : j < m
        · have hj0 : (0 : Int) ≤ (j : Int) := by omega
          have hj1 : (j : Int) < (m : Int) := by omega
          obtain ⟨bl, off, rfl, _, ⟨x1, x2⟩, hx, e1, e2⟩ := eds_at (H.out.ext (Ext.trans HG.out.1.ext hR.out.1.ext)) (show j < l.length by rw [HL.out]; exact hjl)
          simp only at e1 e2
          have HTF := Lib.hid (take_filter (P := jnR a) hx)
          have HGE := Lib.hid hR.out
          clear hx hR
          by_cases q1 : x1 = (a : Int)
          · have t1 : (x1 != (a : Int)) = false := by simp [q1]
            have HD : Hid (r = (l.take (j + 1)).filter (jnR a)) := by
              rw [Hid, HTF.out, if_neg (by simp [jnR, q1]), ← HGE.out.2, List.append_nil]
            clear q1
            go_wp2
            go_roundw
            case rel => exact ⟨j + 1, r, by omega, by omega, by go_num, HGE.out.1, HD.out⟩
            case measure => simp [intOf]; omega
          · have t1 : (x1 != (a : Int)) = true := by simpa using q1
            by_cases q2 : x2 = (a : Int)
            · have t2 : (x2 != (a : Int)) = false := by simp [q2]
              have HD : Hid (r = (l.take (j + 1)).filter (jnR a)) := by
                rw [Hid, HTF.out, if_neg (by simp [jnR, q2]), ← HGE.out.2, List.append_nil]
              clear q1 q2
              go_wp2
              go_roundw
              case rel => exact ⟨j + 1, r, by omega, by omega, by go_num, HGE.out.1, HD.out⟩
              case measure => simp [intOf]; omega
            · have t2 : (x2 != (a : Int)) = true := by simpa using q2
              have HD : Hid (r ++ [(x1, x2)] = (l.take (j + 1)).filter (jnR a)) := by
                rw [Hid, HTF.out, if_pos (by simp [jnR, q1, q2]), ← HGE.out.2]
              clear q1 q2
              go_wp2_with (at_builtin; refine wpList_pushS _ rfl (.tmp 41) (.tmp 46) 22 rfl 63 _ 2 16 Tryd.underlying22 infoEdge rfl (by decide) _ _ _ rfl (HGE.out.1.moved (Ext.alloc _ _)).row ⟨by omega, by omega⟩ (edC (x1, x2)) _ rfl rfl (news_cells rfl _ _) (by simp [edC, Value.oneCell']) ?_; intro g6 c6 w6 ho6 hc6 hat6 _; have HZ := Lib.hid ((HGE.out.1.moved (Ext.alloc _ _)).push ho6 hc6 hat6); clear ho6 hc6 hat6)
              go_roundw
              case rel => exact ⟨j + 1, _, by omega, by rw [snoc_len']; omega, by go_num, HZ.out, HD.out⟩
              case measure => simp [intOf]; omega
        · obtain rfl : m = j := by omega
          obtain ⟨hr1, hr2⟩ := hR.out
          obtain ⟨A3, c3, rfl, he3, _, _⟩ := hr1.eds
          rw [List.take_of_length_le (by rw [HL.out]; exact Nat.le_refl _)] at hr2
          have HX3 := Lib.hid hr1.ext
          have HE3 := Lib.hid he3
          have HI3 : Hid (Inn n r) := inn_fine fun z hz => HOK.out z (List.mem_filter.1 (hr2 ▸ hz)).1
          rw [← hr2] at HJC
          obtain ⟨lr, hlr⟩ : ∃ t, r.length = t := ⟨_, rfl⟩
          rw [hlr] at hr ⊢
          have HLR := Lib.hid hlr
          clear hr1 he3 hR hr2 hlr
          go_wp2_with fail
          refine (parts_any _ A3 n lr c3 r HLR.out hn0 (by omega) (by omega) HE3.out HI3.out).mono ?_
          rintro e w4 ⟨q, gq, cq, rfl, hrow, hiq, hb4, _⟩
          have HI4 := Lib.hid (natv_ints hrow)
          have HX4 : Hid (Ext wo w4) := Ext.trans HX3.out hb4
          have hjc := HJC.out q hiq
          clear hrow hiq hb4 HE3
          go_wp2_with fail
          refine (count_any w4 _ n cq q HI4.out.1 HI4.out.2 (by omega)).mono ?_
          rintro e w5 ⟨rfl, hb5⟩
          have HX5 : Hid (Ext wo w5) := Ext.trans HX4.out hb5
          have HG5 := Lib.hid (HG.out.1.moved HX5.out)
          have hcq : cntP n q ≤ 60 := Nat.le_trans (PD.cnt_le _ _) hn
          obtain ⟨cn, hcn⟩ : ∃ t, cntP n q = t := ⟨_, rfl⟩
          rw [hcn] at hjc hcq ⊢
          clear hb5 hcn HI4 HX4 HX3
          by_cases hJ : DF.Jt l a
          · have h1 : (all : Int) < (cn : Int) - 1 := by have := hjc.2 hJ; omega
            have HD : Hid (d ++ [(a : Int)] = jtsL l (a + 1)) := by rw [Hid, jtsL_succ, if_pos (jtP_iff.2 hJ), ← HG.out.2]
            clear hjc hJ
            go_wp2_with (at_builtin; refine wpList_push _ rfl (.tmp 55) (.tmp 57) 53 rfl 3 (.int .i64 0) 8 Tryd.underlying53 infoI rfl _ _ _ rfl (HG5.out.moved (Ext.alloc _ _)).row ⟨by omega, by omega⟩ (.int .i64 (a : Int)) _ rfl (cell_new1 rfl _ _) rfl ?_; intro g6 c6 w6 ho6 hc6 hat6 _; have HZ := Lib.hid ((HG5.out.moved (Ext.alloc _ _)).push ho6 hc6 hat6); clear ho6 hc6 hat6)
            go_roundw
            case rel => exact ⟨a + 1, _, by omega, by rw [snoc_len']; omega, by go_num, HZ.out, HD.out⟩
            case measure => simp [intOf]; omega
          · have h1 : ¬ (all : Int) < (cn : Int) - 1 := by have := (not_congr hjc).2 hJ; omega
            have HD : Hid (d = jtsL l (a + 1)) := by rw [Hid, jtsL_succ, if_neg (fun z => hJ (jtP_iff.1 z)), ← HG.out.2, List.append_nil]
            clear hjc hJ
            go_wp2
            go_roundw
            case rel => exact ⟨a + 1, d, by omega, by omega, by go_num, HG5.out, HD.out⟩
            case measure => simp [intOf]; omega
    · obtain rfl : n = a := by omega
      have HZ : Hid (RjPost w n l (.returned u6) wr) := by
        obtain ⟨A', c', rfl, h1, _, _⟩ := hR.out.1.ints
        exact ⟨A', c', d, rfl, h1, by omega, hR.out.1.ext, by rw [hR.out.2]; exact jtsL_of n l⟩
      clear hR
      go_wp2
      go_ret
      exact HZ.out
end Go.Proofs.YtakjakglkfhaaaaDoor

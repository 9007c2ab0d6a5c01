/-
  Walks of tour's node, step, nodes, join, from, set. Conditions: the forest lies in memory as 'FoAt' says; the ways as 'RowAt' says.
-/
import Derived.Test.YtckcbfnffmohgaaSpanLeastPk42
import Derived.Test.YtckcbfnffmohgaaSpanLeastPk43
import Derived.WalkSpells
import Derived.Lib.Hide
import Derived.Outline
import Derived.Deep.QuietTactic
import Derived.BigQuiet
import Derived.StillTailTactics
namespace Go.Proofs.Ytckcbfnffmohgaa
open Go Go.RowKit SQ TR DF PD
set_option linter.unusedVariables false

theorem zeroSeq (w : World) : (zeroValue 53).run Try.prog w = .ok (.pointer none) w := by kernel_rfl
theorem zeroInt (w : World) : (zeroValue 3).run Try.prog w = .ok (.int .i64 0) w := by kernel_rfl
section
variable {w : World} {F : FoP} {n N : Nat} {E : List AK.Ed}
set_option maxHeartbeats 400000 in
theorem tnode_any (h : FoAt w F n N E) (a : Int) (r : Bool) (hr : r = decide (0 ≤ a ∧ a < n)) :
    Calls Try.prog 18 #[.pointer (some ⟨F.fb, 0, none⟩), .int .i64 a] w fun e w' => e = .returned (.bool r) ∧ w = w' := by
  have c1 : w.cell? ⟨F.fb, 1, none⟩ = some (.slice (some ⟨F.rb, 0, none⟩) n F.c) := h.blk.cell 1
  subst hr
  clear h
  by_cases h1 : 0 ≤ a
  · by_cases h2 : a < n
    · have q : decide (0 ≤ a ∧ a < (n : Int)) = true := by simp; omega
      rw [q]
      go_enter Try.func18, Try.ntmps18
      go_wp2
      go_ret
      exact ⟨rfl, rfl⟩
    · have q : decide (0 ≤ a ∧ a < (n : Int)) = false := by simp; omega
      rw [q]
      go_enter Try.func18, Try.ntmps18
      go_wp2
      go_ret
      exact ⟨rfl, rfl⟩
  · have q : decide (0 ≤ a ∧ a < (n : Int)) = false := by simp; omega
    rw [q]
    go_enter Try.func18, Try.ntmps18
    go_wp2
    go_ret
    exact ⟨rfl, rfl⟩
theorem tstep_any (w : World) (a b : Nat) (ha : a < 60) (hb : b < 60) : Calls Try.prog 20 #[.int .i64 a, .int .i64 b] w fun e w' => e = .returned (.int .i64 (st a b)) ∧ w = w' := by
  have e1 : IntKind.i64.wrap ((a : Int) + 1) = (a : Int) + 1 := IntWalk.i64_in _ (by omega)
  have e2 : IntKind.i64.wrap (((a : Int) + 1) * 60) = ((a : Int) + 1) * 60 := IntWalk.i64_in _ (by omega)
  have e3 : IntKind.i64.wrap (((a : Int) + 1) * 60 + b) = ((a : Int) + 1) * 60 + b := IntWalk.i64_in _ (by omega)
  go_enter Try.func20, Try.ntmps20
  go_wp2
  go_ret
  exact ⟨rfl, rfl⟩
/-- A row of one's own of numbers. -/
def OwnI (w w' : World) (xs : List Int) (e : Ending) : Prop := ∃ A c, e = .returned (.slice A xs.length c) ∧ w'.ownsRow 0 3 1 (.slice A xs.length c) xs.length (intsV xs) ∧ Ext w w' ∧ ∀ k, (Value.slice A xs.length c).ownBlock = some k → w.heap.size ≤ k
theorem nodes_any {q : Option Addr} {l : List Int} (h : RowAt w q l) (h0 : 0 < l.length) (hl : l.length ≤ 400) :
    Calls Try.prog 36 #[.pointer q] w fun e w' => OwnI w w' (mks l) e := by
  have H := Lib.hid h
  clear h
  go_enter Try.func36, Try.ntmps36
  go_wp2_with fail
  refine (row_list H.out (by omega)).mono ?_
  rintro e w1 ⟨A, c, rfl, ho, hx, hn⟩
  have HO := Lib.hid ho
  have HX := Lib.hid hx
  have HN := Lib.hid hn
  clear ho hx hn
  go_wp2_with fail
  refine (delf_any w1 A c l HO.out h0 (by omega)).mono ?_
  rintro e w2 ⟨rfl, ho, hc⟩
  have HO2 := Lib.hid ho
  have HC := Lib.hid hc
  clear ho hc
  go_wp2
  go_ret
  refine ⟨A, c, rfl, HO2.out, ?_, fun k hk => HN.out k (by cases A with
    | none => simp [Value.ownBlock] at hk
    | some _ => simpa [Value.ownBlock] using hk)⟩
  exact ((Chg.of_below HX.out).trans HC.out (fun i hi hs => HN.out i hs)).below (Nat.le_refl _) (fun _ _ h => h)
theorem take_snocT {α : Type} {l : List α} {k : Nat} {x : α} (h : l[k]? = some x) : l.take (k + 1) = l.take k ++ [x] := by
  rw [List.take_add_one, h]; rfl
set_option maxHeartbeats 1000000 in
/-- Rows joined, one behind the other. -/
theorem tjoin_any {B m c : Nat} (rs : List (Option Addr × List Int)) (hr : ∀ (i : Nat) p, rs[i]? = some p → w.cell? ⟨B, i, none⟩ = some (.pointer p.1) ∧ RowAt w p.1 p.2) (hB : B < w.heap.size) (hm : rs.length = m) (hm2 : m ≤ 100) (hl : (rs.flatMap (·.2)).length ≤ 400) :
    Calls Try.prog 21 #[.slice (some ⟨B, 0, none⟩) m c] w (RowRes w (rs.flatMap (·.2))) := by
  have HR := Lib.hid hr
  have HM := Lib.hid hm
  have HL := Lib.hid hl
  have HB := Lib.hid hB
  clear hr hm hl hB
  go_enter Try.func21, Try.ntmps21
  go_wp2
  go_loopw [4, 10] (fun s i wr => ∃ (k : Nat) (p : Option Addr), k ≤ m ∧ i = .int .i64 k ∧ s = .pointer p ∧ Hid (RowAt wr p ((rs.take k).flatMap (·.2)) ∧ Ext w wr)) (fun _ i _ => m - (intOf i).toNat)
  case atStart => exact ⟨0, none, Nat.zero_le _, rfl, rfl, ⟨.nil, SeqAt.nil _, rfl⟩, Ext.refl _⟩
  case round =>
    obtain ⟨k, p, hk, rfl, rfl, HR2⟩ := hrel
    by_cases hlt : k < m
    · obtain ⟨⟨q, l⟩, hq⟩ : ∃ q, rs[k]? = some q := ⟨_, List.getElem?_eq_getElem (by rw [HM.out]; exact hlt)⟩
      have c1 : wr.cell? ⟨B, k, none⟩ = some (.pointer q) := (HR2.out.2.cell (p := ⟨B, k, none⟩) HB.out).trans (HR.out k _ hq).1
      have c1' : wr.cell? ⟨B, 0 + k, none⟩ = some (.pointer q) := by rw [Nat.zero_add]; exact c1
      have HT := Lib.hid (take_snocT hq)
      have HK := Lib.hid (row_join HR2.out.1 (((HR.out k _ hq).2).ext HR2.out.2) (by
        have h1 := congrArg (fun z => (z.flatMap (·.2)).length) (List.take_append_drop (k + 1) rs)
        have h2 := HL.out
        rw [HT.out] at h1
        simp only [List.flatMap_append, List.flatMap_cons, List.flatMap_nil, List.append_nil, List.length_append] at h1 h2 ⊢
        omega))
      clear hq
      go_wp2_with fail
      refine HK.out.mono ?_
      rintro e w1 ⟨p1, rfl, h1, hx1⟩
      have HU : Hid (RowAt w1 p1 ((rs.take (k + 1)).flatMap (·.2)) ∧ Ext w w1) := ⟨by rw [HT.out, List.flatMap_append]; simpa using h1, HR2.out.2.trans hx1⟩
      clear h1 hx1 HK
      go_wp2
      go_roundw
      case rel => exact ⟨k + 1, p1, by omega, by go_num, rfl, HU⟩
      case measure => simp [intOf]; omega
    · obtain rfl : m = k := by omega
      go_wp2
      go_ret2
      have h := HR2.out
      rw [List.take_of_length_le (by rw [HM.out]; exact Nat.le_refl _)] at h
      exact ⟨p, rfl, h.1, h.2⟩
/-- A node's way from it on. -/
def FromPost (w : World) (E : List AK.Ed) (a : Nat) (e : Ending) (w' : World) : Prop := ∃ (q : Option Addr) (l : List Int), e = .returned (.tuple #[.pointer q, .nilIface]) ∧ RowAt w' q l ∧ TR.Way (adj E) a l ∧ TR.Go (adj E) a l a ∧ Ext w w'
set_option maxHeartbeats 1000000 in
theorem tfrom_any (h : FoAt w F n N E) (a : Nat) (ha : a < n) : Calls Try.prog 19 #[.pointer (some ⟨F.fb, 0, none⟩), .int .i64 a] w (FromPost w E a) := by
  have c0 : w.cell? ⟨F.fb, 0, none⟩ = some (.map (some F.mb)) := h.blk.cell 0
  have c1 : w.cell? ⟨F.fb, 1, none⟩ = some (.slice (some ⟨F.rb, 0, none⟩) n F.c) := h.blk.cell 1
  obtain ⟨p, s, m, h1, h2, h3, h4⟩ := h.ways
  have hn := h.hn
  have hpl := h1.len
  obtain ⟨r, r1, r2, r3⟩ := h1.pa a ha
  have c2 : w.cell? ⟨F.rb, a, none⟩ = some (.int .i64 r) := by
    rw [h2.cellAt a (by omega), intsV, List.getElem?_map, List.getElem?_eq_getElem (by omega)]
    rw [← r1]
    simp [PD.g, List.getD_eq_getElem?_getD, List.getElem?_eq_getElem (show a < p.length by omega)]
  have c2' : w.cell? ⟨F.rb, 0 + a, none⟩ = some (.int .i64 r) := by rw [Nat.zero_add]; exact c2
  have rr : g p r = r := by rw [h1.same r3, r1]
  obtain ⟨q, l, k1, k2, k3⟩ := h4 r (by omega) rr
  have hlk : ∀ k, (Instr.lookup 49 (.map (some F.mb)) (.int .i64 r) false).run Try.prog (w.drewN k) = .ok (.pointer q) (w.drewN k) := fun k => by
    have := (h3.ext (Ext.drewN w k)).look Try.underlying49 (zeroSeq _) (r : Int) (WalkArith.wf_i64 (by omega))
    rw [k1] at this
    exact this
  have hlen := k3.len h.fo hn.2
  obtain ⟨pl, ph, hsp⟩ := List.append_of_mem ((k3.mrk a (by omega)).2 r3)
  obtain ⟨g1, g2⟩ := k3.rot hsp (by omega)
  have HW : Hid (TR.Way (adj E) a ((a : Int) :: ph ++ pl) ∧ TR.Go (adj E) a ((a : Int) :: ph ++ pl) a) := ⟨g2.re ((g2.mrk a (by omega)).1 (by simp)), g1⟩
  have hix : l[pl.length]? = some (a : Int) := by rw [hsp]; simp
  have HI : Hid (l[pl.length]? = some (a : Int) ∧ l.Nodup) := ⟨hix, k3.nd⟩
  have ht : l.take pl.length = pl := by rw [hsp]; simp
  have hd : l.drop pl.length = (a : Int) :: ph := by rw [hsp]; simp
  have HT : Hid (l.take pl.length = pl ∧ l.drop pl.length = (a : Int) :: ph) := ⟨ht, hd⟩
  have hpll : pl.length < l.length := (List.getElem?_eq_some_iff.1 hix).1
  have HQ := Lib.hid k2
  have HLL : Hid (((a : Int) :: ph).length + pl.length ≤ 400) := by unfold Hid; rw [← hd, ← ht]; simp; omega
  clear h h1 h2 h3 h4 k1 k2 k3 g1 g2 hsp hix ht hd rr r1 r2 r3 hpl
  have z1 : (a : Int) < (n : Int) := by omega
  go_enter Try.func19, Try.ntmps19
  go_wp2_with fail
  go_quiet (fail)
  go_wp2_with fail
  refine (row_list (HQ.out.ext (Ext.drewN w nq)) (by omega)).mono ?_
  rintro e w1 ⟨A, c, rfl, ho, hx, hnw⟩
  have HO := Lib.hid ho
  have HX : Hid (Ext w w1) := (Ext.drewN w nq).trans hx
  clear ho hx hnw
  go_wp2_with fail
  refine (index_any w1 A c l pl.length (a : Int) HO.out HI.out.1 HI.out.2 (by omega)).mono ?_
  rintro e w1' ⟨rfl, rfl⟩
  go_wp2_with fail
  refine (row_split (HQ.out.ext HX.out) (by omega) pl.length (by omega)).mono ?_
  rintro e w2 ⟨q1, q2, rfl, s1, s2, hx2⟩
  have S1 : Hid (RowAt w2 q1 pl) := by rw [HT.out.1] at s1; exact s1
  have S2 : Hid (RowAt w2 q2 ((a : Int) :: ph)) := by rw [HT.out.2] at s2; exact s2
  have HX2 := Lib.hid (HX.out.trans hx2)
  clear s1 s2 hx2
  go_wp2_with fail
  refine (row_join S2.out S1.out HLL.out).mono ?_
  rintro e w3 ⟨q3, rfl, s3, hx3⟩
  have S3 := Lib.hid s3
  have HX3 := Lib.hid (HX2.out.trans hx3)
  clear s3 hx3
  go_wp2
  go_ret2
  exact ⟨q3, _, rfl, S3.out, HW.out.1, HW.out.2, HX3.out⟩
end
end Go.Proofs.Ytckcbfnffmohgaa

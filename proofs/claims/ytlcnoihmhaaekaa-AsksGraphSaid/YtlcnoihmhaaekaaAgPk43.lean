/-
  Events as they lie in memory; walks of tour.Of and asks.Check. Condition: the events lie in memory as 'EvsAt' says.
  Walk of asks.Check. Condition: the events lie in memory as 'EvsAt' says.
-/
import Derived.Test.YtlcnoihmhaaekaaEm
import Derived.Test.YtlcnoihmhaaekaaTof
import Derived.Test.YtlcnoihmhaaekaaAgPk42
import Derived.WalkSpells
import Derived.Lib.Hide
import Derived.Outline
import Derived.RegionTactic
import Derived.BigRegion
import Derived.Deep.QuietTactic
import Derived.BigQuiet
import Derived.Deep.DeepFit
import Derived.Deep.DeepCutAuto
import Derived.Deep.CutBlock
import Derived.StillTailTactics
namespace Go.Proofs.Ytlcnoihmhaaekaa
open Go Go.RowKit
set_option linter.unusedVariables false

def EvAt (w : World) (g o : Nat) (e : AK.Ev) : Prop := w.cell? ⟨g, o, none⟩ = some (.int .i64 e.w) ∧ w.cell? ⟨g, o + 1, none⟩ = some (.int .i64 e.a) ∧ w.cell? ⟨g, o + 2, none⟩ = some (.int .i64 e.b)
def EvsAt (w : World) (A : Option Addr) (l : List AK.Ev) : Prop := l = [] ∨ ∃ b off, A = some ⟨b, off, none⟩ ∧ b < w.heap.size ∧ ∀ (i : Nat) (e : AK.Ev), l[i]? = some e → EvAt w b (off + i * 3) e
theorem EvsAt.chg {S : Nat → Prop} {w w' : World} {A : Option Addr} {l : List AK.Ev} (h : EvsAt w A l) (hc : Chg S w w') (hn : l ≠ [] → ∀ x, A = some x → ¬ S x.block) : EvsAt w' A l := by
  by_cases h0 : l = []
  · exact .inl h0
  rcases h with h | ⟨b, off, rfl, hb, he⟩
  · exact absurd h h0
  · have hs : ¬ S b := hn h0 _ rfl
    exact .inr ⟨b, off, rfl, Nat.lt_of_lt_of_le hb hc.size, fun i e h => ⟨(hc.cell (p := ⟨b, _, none⟩) hb hs).trans (he i e h).1, (hc.cell (p := ⟨b, _, none⟩) hb hs).trans (he i e h).2.1, (hc.cell (p := ⟨b, _, none⟩) hb hs).trans (he i e h).2.2⟩⟩
theorem EvsAt.ext {w w' : World} {A : Option Addr} {l : List AK.Ev} (h : EvsAt w A l) (hb : Below w.heap.size w w') : EvsAt w' A l := by
  rcases h with h | ⟨b, off, rfl, hl, he⟩
  · exact .inl h
  · exact EvsAt.chg (.inr ⟨b, off, rfl, hl, he⟩) (Chg.of_below hb) (by rintro _ x hx; injection hx with hx; subst hx; simp only; omega)

end Go.Proofs.Ytlcnoihmhaaekaa
namespace Go.Proofs.Ytlcnoihmhaaekaa
open Go Go.RowKit
set_option linter.unusedVariables false

abbrev aerrV (n : Int) : Value := .iface 63 (.int .i64 n)
def oErr : Option Int → Value
  | none => .nilIface
  | some k => aerrV k
def ChkPost (w : World) (n : Int) (l : List AK.Ev) (e : Ending) (w' : World) : Prop := e = .returned (.tuple #[.int .i64 (AK.chk n l).1, oErr (AK.chk n l).2]) ∧ Below w.heap.size w w'
theorem ChkPost.mk {w w' : World} {n i : Int} {l : List AK.Ev} {o : Option Int} (h : AK.chk n l = (i, o)) (hb : Below w.heap.size w w') : ChkPost w n l (.returned (.tuple #[.int .i64 i, oErr o])) w' := ⟨by rw [h], hb⟩
def ChkRel (w : World) (n : Int) (l : List AK.Ev) (B k : Nat) (wr : World) : Prop := AK.At n l k ∧ MapAt wr B k (fun x => if AK.there (l.take k) x then 1 else 0) ∧ Below w.heap.size w wr ∧ w.heap.size ≤ B
theorem ChkRel.flip {w wr w2 w3 : World} {n v : Int} {l : List AK.Ev} {B k : Nat} {e : AK.Ev} {t : Bool} (h : ChkRel w n l B k wr) (he : l[k]? = some e) (hw : e.w ≠ 3) (hb : AK.bad n (AK.there (l.take k)) e = none)
    (b2 : Below wr.heap.size wr w2) (hm : MapAt w3 B (k + 1) (updI (fun x => if AK.there (l.take k) x then 1 else 0) e.ed v)) (hc : Chg (fun k => k = B) w2 w3) (ht : AK.there (l.take k) e.ed = t) (hv : v = cond t 0 1) : ChkRel w n l B (k + 1) w3 := by
  have hA : Below w.heap.size w w2 := h.2.2.1.trans (Below.mono b2 h.2.2.1.size)
  refine ⟨h.1.next he hb, ?_, ((Chg.of_below hA).trans hc (fun i _ hi => by have := h.2.2.2; omega)).below (Nat.le_refl _) (fun _ _ h => h), h.2.2.2⟩
  have : (updI (fun x => if AK.there (l.take k) x then 1 else 0) e.ed v) = fun x => if AK.there (l.take (k + 1)) x then 1 else 0 := by
    funext y
    rw [AK.there_flip he hw, hv]
    unfold updI AK.flip
    by_cases hy : y = e.ed
    · rw [if_pos hy, if_pos hy, ht]
      cases t <;> rfl
    · rw [if_neg hy, if_neg hy]
  rwa [this] at hm
set_option maxHeartbeats 2000000 in
set_option maxRecDepth 100000 in
theorem chk_any (w : World) (n : Int) (A : Option Addr) (len c : Nat) (l : List AK.Ev) (hl : l.length = len) (hlm : len ≤ 9223372036854775807) (h : EvsAt w A l) :
    Calls Try.prog 48 #[.int .i64 n, .slice A len c] w (ChkPost w n l) := by
  have H := Lib.hid h
  have HL := Lib.hid hl
  clear h hl
  by_cases h1 : n < 1
  · have hp : Hid (AK.chk n l = (0, some 1)) := by unfold Hid AK.chk; rw [if_pos (.inl h1)]
    go_enter Try.func48, Try.ntmps48
    go_wp2
    go_ret2
    exact ChkPost.mk hp.out (Below.refl _ _)
  by_cases h2 : 60 < n
  · have hp : Hid (AK.chk n l = (0, some 1)) := by unfold Hid AK.chk; rw [if_pos (.inr h2)]
    go_enter Try.func48, Try.ntmps48
    go_wp2
    go_ret2
    exact ChkPost.mk hp.out (Below.refl _ _)
  by_cases h3 : 120 < len
  · have hp : Hid (AK.chk n l = (0, some 3)) := by have := HL.out; unfold Hid AK.chk; rw [if_neg (by omega), if_pos (by omega)]
    go_enter Try.func48, Try.ntmps48
    go_wp2
    go_ret2
    exact ChkPost.mk hp.out (Below.refl _ _)
  have hmm := @run_makeMap Try.prog
  go_enter Try.func48, Try.ntmps48
  go_wp2
  go_loopw [24] (fun v wr => ∃ k : Nat, k ≤ len ∧ v = .int .i64 k ∧ ChkRel w n l w.heap.size k wr) (fun v _ => len - (intOf v).toNat)
  case atStart =>
    have := HL.out
    exact ⟨0, by omega, rfl, AK.At.start (by omega) (by omega) (by omega), MapAt.made w, (Below.refl _ _).alloc (Nat.le_refl _) _, Nat.le_refl _⟩
  case round =>
    obtain ⟨k, hk, rfl, hR⟩ := hrel
    have HR := Lib.hid hR
    clear hR
    by_cases hlt : k < len
    · obtain ⟨e, he⟩ : ∃ e, l[k]? = some e := ⟨_, List.getElem?_eq_getElem (by have := HL.out; omega)⟩
      have HE := Lib.hid he
      rcases (H.out.ext (HR.out.2.2.1)) with h0 | ⟨b, off, rfl, hbl, hev⟩
      · rw [h0] at he; simp at he
      obtain ⟨e1, e2, e3⟩ := hev k e he
      obtain ⟨ew, ea, eb⟩ := e
      simp only at e1 e2 e3
      clear hev he
      by_cases hr : 1 ≤ ew ∧ ew ≤ 3 ∧ 0 ≤ ea ∧ ea < n ∧ 0 ≤ eb ∧ eb < n
      · obtain ⟨r1, r2, r3, r4, r5, r6⟩ := hr
        by_cases hw : ew = 3
        · subst hw
          have HB : Hid (AK.bad n (AK.there (l.take k)) ⟨3, ea, eb⟩ = none) := AK.bad_ask r1 r2 r3 r4 r5 r6 rfl
          have HT : Hid (AK.there (l.take (k + 1)) = AK.there (l.take k)) := by unfold Hid; rw [AK.take_next HE.out, AK.there_snoc]; rfl
          have HN : Hid (ChkRel w n l w.heap.size (k + 1) (wr.alloc (.cells #[.int .i64 3, .int .i64 ea, .int .i64 eb] 60))) :=
            ⟨HR.out.1.next HE.out HB.out, by rw [HT.out]; exact (HR.out.2.1.ext ((Below.refl _ _).alloc (Nat.le_refl _) _)).mono (by omega), HR.out.2.2.1.alloc HR.out.2.2.1.size _, HR.out.2.2.2⟩
          clear r1 r2
          go_wp2
          go_roundw
          case rel => exact ⟨k + 1, by omega, by go_num, HN.out⟩
          case measure => simp [intOf]; omega
        · have hw3 : (ew == 3) = false := by simpa using hw
          clear hw
          have hok : okEA (AK.ek ea eb) := okE_ofA (by unfold AK.ek; simp only; omega) (by unfold AK.ek; simp only; omega)
          go_wp2_with fail
          refine (of_any _ ea eb).mono ?_
          rintro e w2 ⟨rfl, hb2⟩
          have hz : wr.heap.size < w2.heap.size := by have := hb2.size; simp at this; omega
          have bl : Blk w2 wr.heap.size 60 #[.int .i64 ew, .int .i64 ea, .int .i64 eb] := (Blk.new wr _ _).chg (Chg.of_below hb2) (by simp)
          have g0 : w2.cell? ⟨wr.heap.size, 0, none⟩ = some (.int .i64 ew) := bl.cell 0
          have g1 : w2.cell? ⟨wr.heap.size, 1, none⟩ = some (.int .i64 ea) := bl.cell 1
          have g2 : w2.cell? ⟨wr.heap.size, 2, none⟩ = some (.int .i64 eb) := bl.cell 2
          have B2 : Hid (Below wr.heap.size wr (w2.alloc (.cells #[.int .i64 (AK.ek ea eb).1, .int .i64 (AK.ek ea eb).2] 38))) :=
            (((Below.refl _ _).alloc (Nat.le_refl _) _).trans (Below.mono hb2 (by simp))).alloc (by omega) _
          have HM := Lib.hid (HR.out.2.1.ext B2.out)
          have hlk := HM.out.look (AK.ek ea eb) hok
          have hlk2 := (HM.out.ext (Below.refl _ _).drew).look (AK.ek ea eb) hok
          obtain ⟨t, ht⟩ : ∃ t, AK.there (l.take k) (AK.ek ea eb) = t := ⟨_, rfl⟩
          have HT := Lib.hid ht
          have HOK := Lib.hid hok
          rw [ht] at hlk hlk2
          clear bl hb2 ht hok
          by_cases hab : ea = eb
          · have HB : Hid (AK.chk n l = ((k : Int), some 2)) := HR.out.1.stop HE.out (AK.bad_shape r1 r2 r3 r4 r5 r6 (by simpa using hw3) hab)
            have hab' : (ea == eb) = true := by simpa using hab
            have HZ : Hid (Below w.heap.size w _) := HR.out.2.2.1.trans (Below.mono B2.out HR.out.2.2.1.size)
            clear hab
            go_wp2
            go_ret2
            exact ChkPost.mk HB.out HZ.out
          · have hab' : (ea == eb) = false := by simpa using hab
            have HAB := Lib.hid hab
            clear hab
            by_cases hw1 : ew = 1
            · have W1 := Lib.hid hw1
              have hw1' : (ew == 1) = true := by simpa using hw1
              have hw2' : (ew == 2) = false := by rw [beq_eq_false_iff_ne]; omega
              clear hw1
              cases t with
              | true =>
                have HB : Hid (AK.chk n l = ((k : Int), some 6)) := HR.out.1.stop HE.out (AK.bad_clash r1 r2 r3 r4 r5 r6 W1.out HAB.out HT.out)
                have HZ : Hid (Below w.heap.size w _) := HR.out.2.2.1.trans (Below.mono B2.out HR.out.2.2.1.size)
                rw [if_pos rfl] at hlk hlk2
                go_wp2
                go_ret2
                exact ChkPost.mk HB.out HZ.out
              | false =>
                rw [if_neg (by simp)] at hlk hlk2
                obtain ⟨w4, hp, hm4, hc4⟩ := (HM.out.ext (Below.refl _ _).drew).put (by omega) (AK.ek ea eb) HOK.out 1 (by decide)
                have HN : Hid (ChkRel w n l w.heap.size (k + 1) w4) := HR.out.flip HE.out (by simp only; have := W1.out; omega) (AK.bad_add r1 r2 r3 r4 r5 r6 W1.out HAB.out HT.out) B2.out.drew hm4 hc4 HT.out rfl
                clear hm4 hc4
                go_wp2
                go_region
                all_goals go_wp2
                go_roundw
                case rel => exact ⟨k + 1, by omega, by go_num, HN.out⟩
                case measure => simp [intOf]; omega
            · have hw2 : ew = 2 := by have : ew ≠ 3 := by simpa using hw3
                                      omega
              have W2 := Lib.hid hw2
              have hw1' : (ew == 1) = false := by simpa using hw1
              have hw2' : (ew == 2) = true := by simpa using hw2
              clear hw1 hw2
              cases t with
              | false =>
                have HB : Hid (AK.chk n l = ((k : Int), some 4)) := HR.out.1.stop HE.out (AK.bad_none r1 r2 r3 r4 r5 r6 W2.out HAB.out HT.out)
                have HZ : Hid (Below w.heap.size w _) := HR.out.2.2.1.trans (Below.mono B2.out HR.out.2.2.1.size)
                rw [if_neg (by simp)] at hlk hlk2
                go_wp2
                go_ret2
                exact ChkPost.mk HB.out HZ.out
              | true =>
                rw [if_pos rfl] at hlk hlk2
                obtain ⟨w4, hp, hm4, hc4⟩ := (HM.out.ext (Below.refl _ _).drew).put (by omega) (AK.ek ea eb) HOK.out 0 (by decide)
                have HN : Hid (ChkRel w n l w.heap.size (k + 1) w4) := HR.out.flip HE.out (by simp only; have := W2.out; omega) (AK.bad_drop r1 r2 r3 r4 r5 r6 W2.out HAB.out HT.out) B2.out.drew hm4 hc4 HT.out rfl
                clear hm4 hc4
                go_wp2
                go_region
                all_goals go_wp2
                go_roundw
                case rel => exact ⟨k + 1, by omega, by go_num, HN.out⟩
                case measure => simp [intOf]; omega
      · have HB : Hid (AK.chk n l = ((k : Int), some 1)) := HR.out.1.stop HE.out (AK.bad_range (by omega))
        have HN := Lib.hid (HR.out.2.2.1.alloc HR.out.2.2.1.size (.cells #[.int .i64 ew, .int .i64 ea, .int .i64 eb] 60))
        have hnr := Lib.hid hr
        clear hr
        go_wp2
        all_goals first
          | (go_ret2; exact ChkPost.mk HB.out HN.out)
          | (exfalso; exact hnr.out (by omega))
    · go_wp2
      go_ret2
      exact ChkPost.mk (HR.out.1.end_ (by have := HL.out; omega)) HR.out.2.2.1
end Go.Proofs.Ytlcnoihmhaaekaa

/-
  Maps from edges to numbers that lie in memory: what they hold as a function; made, asked, written. No conditions.
  Events as they lie in memory; walks of tour.Of and asks.Check. Condition: the events lie in memory as 'EvsAt' says.
  Walk of asks.Check. Condition: the events lie in memory as 'EvsAt' says.
  Walk of asks.lives. Conditions: the events lie in memory as 'EvsAt' says, and nothing is wrong of them.
-/
import Derived.Test.YthgniehfejklhaaGreatRows
import Derived.Test.YthgniehfejklhaaGreatBs1
import Derived.Test.YthgniehfejklhaaGreatBs4
import Derived.Maps.Own
import Derived.Maps.Views
import Derived.DeepKeys4
import Derived.WalkKit
import Derived.Test.YthgniehfejklhaaGreatBs11
import Derived.Test.YthgniehfejklhaaGreatBs31
import Derived.WalkSpells
import Derived.Lib.Hide
import Derived.Outline
import Derived.RegionTactic
import Derived.BigRegion
import Derived.Deep.QuietTactic
import Derived.BigQuiet
import Derived.Deep.DeepFit
import Derived.Deep.DeepCutAuto
import Derived.Deep.CutBlock
import Derived.StillTailTactics
import Derived.Test.YthgniehfejklhaaGreatBs6
namespace Go.Proofs.YthgniehfejklhaaGreat
open Go Go.RowKit
set_option linter.unusedVariables false

theorem laidOutE : laidOutB Tryz.prog = true := by kernel_rfl
theorem wideE : (match Tryz.prog.underlying 49 with | some (.array _ _) | some (.struct _) => true | _ => false) = true := by rw [Tryz.underlying49]
theorem keyTypeE : Tryz.prog.keyType 49 = true := by kernel_rfl
theorem cellsE : Tryz.prog.cellsOf 49 = 2 := by kernel_rfl
theorem cellsI : Tryz.prog.cellsOf 3 = 1 := by kernel_rfl
theorem rowE : (49 : TypeId) < Tryz.prog.types.size := of_decide_eq_true (by kernel_rfl)
theorem keyTypeE2 : Tryz.prog.keyTypeAt 2 49 = true := by kernel_rfl
theorem keyedE : Maps.Keyed Tryz.prog 49 := Maps.Keyed.of_law (deep_law_laid laidOutE (m := 2) (by omega) rowE keyTypeE2 (by rw [Tryz.underlying49]))
theorem someTypes : 0 < Tryz.prog.types.size := of_decide_eq_true (by kernel_rfl)
theorem formedE {a b : Value} : (Value.agg #[a, b]).formed Tryz.prog 49 = true := by simp [Value.formed, Tryz.underlying49, cellsE]
def okEA (x : AK.Ed) : Prop := (Lit.int .i64 x.1).wf = true ∧ (Lit.int .i64 x.2).wf = true
theorem okE_ofA {x : AK.Ed} (h1 : -1000 ≤ x.1 ∧ x.1 ≤ 1000000) (h2 : -1000 ≤ x.2 ∧ x.2 ≤ 1000000) : okEA x := ⟨WalkArith.wf_i64 (by omega), WalkArith.wf_i64 (by omega)⟩
theorem keyOfEA (x : AK.Ed) (h : okEA x) : ∃ l, keyOf Tryz.prog 49 (edV x) = some l := by
  obtain ⟨n, hn⟩ : ∃ n, Tryz.prog.types.size = n + 1 := ⟨Tryz.prog.types.size - 1, by have := someTypes; omega⟩
  unfold keyOf
  rw [Tryz.underlying49]
  simp only [keyTypeE, formedE, Bool.and_self, if_true]
  refine ⟨.string (keyBytes [.int .i64 x.1, .int .i64 x.2]), ?_⟩
  rw [hn]
  simp [Program.keyLits, Tryz.underlying49, cellsE, cellsI, Value.cells, h.1, h.2]
noncomputable def litEA (x : AK.Ed) : Lit := (keyOf Tryz.prog 49 (edV x)).getD (.bool false)
theorem litE_eqA {x : AK.Ed} (h : okEA x) : keyOf Tryz.prog 49 (edV x) = some (litEA x) := by
  obtain ⟨l, hl⟩ := keyOfEA x h
  unfold litEA; rw [hl]; rfl
theorem keyE_ok {v : Value} {l : Lit} (h : keyOf Tryz.prog 49 v = some l) : WideAt.IsKeyLit l := keyedE.key h
theorem litE_all {x : AK.Ed} (h : okEA x) : ∃ l, litEA x = l ∧ WideAt.IsKeyLit l := by
  obtain ⟨l, hl⟩ := keyOfEA x h
  exact ⟨l, by unfold litEA; rw [hl]; rfl, keyE_ok hl⟩
theorem litE_ne {x y : AK.Ed} (hx : okEA x) (hy : okEA y) (h : x ≠ y) : litEA x ≠ litEA y := by
  intro e
  have h1 := litE_eqA hx
  rw [e] at h1
  have := keyedE.inj h1 (litE_eqA hy)
  simp at this
  exact h (Prod.ext this.1 this.2)

/-- Block b is a map from edges to numbers: what it answers is m. -/
def MapAt (w : World) (b N : Nat) (m : AK.Ed → Int) : Prop :=
  ∃ D : DataW Unit, w.ownsMap Tryz.prog 49 (plainElem Tryz.prog 3) b N D ∧ Maps.IsMap D ∧ ∀ x, okEA x → D.atKey (litEA x) (.lit (.int .i64 0)) = .lit (.int .i64 (m x))
theorem MapAt.made (w : World) : MapAt (w.alloc (.map #[] 0)) w.heap.size 0 (fun _ => 0) := ⟨.map [], World.ownsMap_made _ _ _ _, Maps.isMap_empty, fun x _ => rfl⟩
theorem MapAt.lt {w : World} {b N : Nat} {m : AK.Ed → Int} (h : MapAt w b N m) : b < w.heap.size := by obtain ⟨D, h, _⟩ := h; exact h.lt
theorem MapAt.chg {S : Nat → Prop} {w w' : World} {b N : Nat} {m : AK.Ed → Int} (h : MapAt w b N m) (hc : Chg S w w') (hn : ¬ S b) : MapAt w' b N m := by
  obtain ⟨D, h1, r⟩ := h
  have hlt := h1.lt
  obtain ⟨es, clock, hb, r1⟩ := h1
  exact ⟨D, ⟨es, clock, (hc.block b hlt hn).trans hb, r1⟩, r⟩
theorem MapAt.ext {w w' : World} {b N : Nat} {m : AK.Ed → Int} (h : MapAt w b N m) (hb : Below w.heap.size w w') : MapAt w' b N m := h.chg (Chg.of_below hb) (by have := h.lt; omega)
theorem MapAt.mono {w : World} {b N N' : Nat} {m : AK.Ed → Int} (h : MapAt w b N m) (hn : N ≤ N') : MapAt w b N' m := by
  obtain ⟨D, h1, r⟩ := h
  exact ⟨D, h1.mono hn, r⟩
theorem zeroI (w : World) : (zeroValue 3).run Tryz.prog w = .ok (.int .i64 0) w := by kernel_rfl
theorem MapAt.look {w : World} {b N : Nat} {m : AK.Ed → Int} (h : MapAt w b N m) (x : AK.Ed) (hx : okEA x) :
    (Instr.lookup 137 (.map (some b)) (edV x) false).run Tryz.prog w = .ok (.int .i64 (m x)) w := by
  obtain ⟨D, h1, h2, h3⟩ := h
  obtain ⟨c, hr, hat, _⟩ := h1.lookup_int keyedE Tryz.underlying137 Tryz.underlying3 (zeroI w) (litE_eqA hx)
  rw [h3 x hx] at hat
  have h5 := (Lit.int.inj (DataW.lit.inj hat)).2
  rw [hr, h5]
def updI (m : AK.Ed → Int) (x : AK.Ed) (v : Int) : AK.Ed → Int := fun y => if y = x then v else m y
theorem MapAt.put {w : World} {b N : Nat} {m : AK.Ed → Int} (h : MapAt w b N m) (hN : N < 1000000) (x : AK.Ed) (hx : okEA x) (v : Int) (hv : (Lit.int .i64 v).wf = true) :
    ∃ w', (Instr.mapUpdate 137 (.map (some b)) (edV x) (.int .i64 v)).run Tryz.prog w = .ok () w' ∧ MapAt w' b (N + 1) (updI m x v) ∧ Chg (fun k => k = b) w w' := by
  obtain ⟨D, h1, h2, h3⟩ := h
  obtain ⟨w', hr, ho, hg⟩ := h1.update keyedE Tryz.underlying137 (by unfold maxLen; omega) (litE_eqA hx) (plainElem_int Tryz.underlying3 hv)
  refine ⟨w', hr, ⟨_, ho, h2.put _ _, fun y hy => ?_⟩, (Chg.of_grown hg).mono (fun k _ hk => by simpa using hk)⟩
  by_cases e : y = x
  · subst e
    obtain ⟨l, hl, hk⟩ := litE_all hy
    rw [hl, Maps.atKey_put_same h2 hk]; simp [updI]
  · rw [Maps.atKey_put_other (litE_ne hy hx e), h3 y hy]; simp [updI, e]
theorem own_ne_map {w : World} {base : Nat} {e : TypeId} {size : Nat} {v : Value} {n : Nat} {xs : List Value} (h : w.ownsRow base e size v n xs) {b N : Nat} {m : AK.Ed → Int} (hm : MapAt w b N m) : v.ownBlock ≠ some b := by
  rcases h.2 with ⟨rfl, _⟩ | ⟨g, cap, cur, rfl, _, hh, _⟩
  · simp [Value.ownBlock]
  · intro he
    have : g = b := by simpa [Value.ownBlock] using he
    subst this
    obtain ⟨D, ⟨es, clock, hb, _⟩, _⟩ := hm
    rw [hh] at hb
    cases hb
end Go.Proofs.YthgniehfejklhaaGreat
namespace Go.Proofs.YthgniehfejklhaaGreat
open Go Go.RowKit
set_option linter.unusedVariables false

def EvAt (w : World) (g o : Nat) (e : AK.Ev) : Prop := w.cell? ⟨g, o, none⟩ = some (.int .i64 e.w) ∧ w.cell? ⟨g, o + 1, none⟩ = some (.int .i64 e.a) ∧ w.cell? ⟨g, o + 2, none⟩ = some (.int .i64 e.b)
def EvsAt (w : World) (A : Option Addr) (l : List AK.Ev) : Prop := l = [] ∨ ∃ b off, A = some ⟨b, off, none⟩ ∧ b < w.heap.size ∧ ∀ (i : Nat) (e : AK.Ev), l[i]? = some e → EvAt w b (off + i * 3) e
theorem EvsAt.chg {S : Nat → Prop} {w w' : World} {A : Option Addr} {l : List AK.Ev} (h : EvsAt w A l) (hc : Chg S w w') (hn : l ≠ [] → ∀ x, A = some x → ¬ S x.block) : EvsAt w' A l := by
  by_cases h0 : l = []
  · exact .inl h0
  rcases h with h | ⟨b, off, rfl, hb, he⟩
  · exact absurd h h0
  · have hs : ¬ S b := hn h0 _ rfl
    exact .inr ⟨b, off, rfl, Nat.lt_of_lt_of_le hb hc.size, fun i e h => ⟨(hc.cell (p := ⟨b, _, none⟩) hb hs).trans (he i e h).1, (hc.cell (p := ⟨b, _, none⟩) hb hs).trans (he i e h).2.1, (hc.cell (p := ⟨b, _, none⟩) hb hs).trans (he i e h).2.2⟩⟩
theorem EvsAt.ext {w w' : World} {A : Option Addr} {l : List AK.Ev} (h : EvsAt w A l) (hb : Below w.heap.size w w') : EvsAt w' A l := by
  rcases h with h | ⟨b, off, rfl, hl, he⟩
  · exact .inl h
  · exact EvsAt.chg (.inr ⟨b, off, rfl, hl, he⟩) (Chg.of_below hb) (by rintro _ x hx; injection hx with hx; subst hx; simp only; omega)

end Go.Proofs.YthgniehfejklhaaGreat
namespace Go.Proofs.YthgniehfejklhaaGreat
open Go Go.RowKit
set_option linter.unusedVariables false

abbrev aerrV (n : Int) : Value := .iface 86 (.int .i64 n)
def oErr : Option Int → Value
  | none => .nilIface
  | some k => aerrV k
def ChkPost (w : World) (n : Int) (l : List AK.Ev) (e : Ending) (w' : World) : Prop := e = .returned (.tuple #[.int .i64 (AK.chk n l).1, oErr (AK.chk n l).2]) ∧ Below w.heap.size w w'
theorem ChkPost.mk {w w' : World} {n i : Int} {l : List AK.Ev} {o : Option Int} (h : AK.chk n l = (i, o)) (hb : Below w.heap.size w w') : ChkPost w n l (.returned (.tuple #[.int .i64 i, oErr o])) w' := ⟨by rw [h], hb⟩
def ChkRel (w : World) (n : Int) (l : List AK.Ev) (B k : Nat) (wr : World) : Prop := AK.At n l k ∧ MapAt wr B k (fun x => if AK.there (l.take k) x then 1 else 0) ∧ Below w.heap.size w wr ∧ w.heap.size ≤ B
theorem ChkRel.flip {w wr w2 w3 : World} {n v : Int} {l : List AK.Ev} {B k : Nat} {e : AK.Ev} {t : Bool} (h : ChkRel w n l B k wr) (he : l[k]? = some e) (hw : e.w ≠ 3) (hb : AK.bad n (AK.there (l.take k)) e = none)
    (b2 : Below wr.heap.size wr w2) (hm : MapAt w3 B (k + 1) (updI (fun x => if AK.there (l.take k) x then 1 else 0) e.ed v)) (hc : Chg (fun k => k = B) w2 w3) (ht : AK.there (l.take k) e.ed = t) (hv : v = cond t 0 1) : ChkRel w n l B (k + 1) w3 := by
  have hA : Below w.heap.size w w2 := h.2.2.1.trans (Below.mono b2 h.2.2.1.size)
  refine ⟨h.1.next he hb, ?_, ((Chg.of_below hA).trans hc (fun i _ hi => by have := h.2.2.2; omega)).below (Nat.le_refl _) (fun _ _ h => h), h.2.2.2⟩
  have : (updI (fun x => if AK.there (l.take k) x then 1 else 0) e.ed v) = fun x => if AK.there (l.take (k + 1)) x then 1 else 0 := by
    funext y
    rw [AK.there_flip he hw, hv]
    unfold updI AK.flip
    by_cases hy : y = e.ed
    · rw [if_pos hy, if_pos hy, ht]
      cases t <;> rfl
    · rw [if_neg hy, if_neg hy]
  rwa [this] at hm
set_option maxHeartbeats 2000000 in
set_option maxRecDepth 100000 in
theorem chk_any (w : World) (n : Int) (A : Option Addr) (len c : Nat) (l : List AK.Ev) (hl : l.length = len) (hlm : len ≤ 9223372036854775807) (h : EvsAt w A l) :
    Calls Tryz.prog 56 #[.int .i64 n, .slice A len c] w (ChkPost w n l) := by
  have H := Lib.hid h
  have HL := Lib.hid hl
  clear h hl
  by_cases h1 : n < 1
  · have hp : Hid (AK.chk n l = (0, some 1)) := by unfold Hid AK.chk; rw [if_pos (.inl h1)]
    go_enter Tryz.func56, Tryz.ntmps56
    go_wp2
    go_ret2
    exact ChkPost.mk hp.out (Below.refl _ _)
  by_cases h2 : 60 < n
  · have hp : Hid (AK.chk n l = (0, some 1)) := by unfold Hid AK.chk; rw [if_pos (.inr h2)]
    go_enter Tryz.func56, Tryz.ntmps56
    go_wp2
    go_ret2
    exact ChkPost.mk hp.out (Below.refl _ _)
  by_cases h3 : 120 < len
  · have hp : Hid (AK.chk n l = (0, some 3)) := by have := HL.out; unfold Hid AK.chk; rw [if_neg (by omega), if_pos (by omega)]
    go_enter Tryz.func56, Tryz.ntmps56
    go_wp2
    go_ret2
    exact ChkPost.mk hp.out (Below.refl _ _)
  have hmm := @run_makeMap Tryz.prog
  go_enter Tryz.func56, Tryz.ntmps56
  go_wp2
  go_loopw [24] (fun v wr => ∃ k : Nat, k ≤ len ∧ v = .int .i64 k ∧ ChkRel w n l w.heap.size k wr) (fun v _ => len - (intOf v).toNat)
  case atStart =>
    have := HL.out
    exact ⟨0, by omega, rfl, AK.At.start (by omega) (by omega) (by omega), MapAt.made w, (Below.refl _ _).alloc (Nat.le_refl _) _, Nat.le_refl _⟩
  case round =>
    obtain ⟨k, hk, rfl, hR⟩ := hrel
    have HR := Lib.hid hR
    clear hR
    by_cases hlt : k < len
    · obtain ⟨e, he⟩ : ∃ e, l[k]? = some e := ⟨_, List.getElem?_eq_getElem (by have := HL.out; omega)⟩
      have HE := Lib.hid he
      rcases (H.out.ext (HR.out.2.2.1)) with h0 | ⟨b, off, rfl, hbl, hev⟩
      · rw [h0] at he; simp at he
      obtain ⟨e1, e2, e3⟩ := hev k e he
      obtain ⟨ew, ea, eb⟩ := e
      simp only at e1 e2 e3
      clear hev he
      by_cases hr : 1 ≤ ew ∧ ew ≤ 3 ∧ 0 ≤ ea ∧ ea < n ∧ 0 ≤ eb ∧ eb < n
      · obtain ⟨r1, r2, r3, r4, r5, r6⟩ := hr
        by_cases hw : ew = 3
        · subst hw
          have HB : Hid (AK.bad n (AK.there (l.take k)) ⟨3, ea, eb⟩ = none) := AK.bad_ask r1 r2 r3 r4 r5 r6 rfl
          have HT : Hid (AK.there (l.take (k + 1)) = AK.there (l.take k)) := by unfold Hid; rw [AK.take_next HE.out, AK.there_snoc]; rfl
          have HN : Hid (ChkRel w n l w.heap.size (k + 1) (wr.alloc (.cells #[.int .i64 3, .int .i64 ea, .int .i64 eb] 51))) :=
            ⟨HR.out.1.next HE.out HB.out, by rw [HT.out]; exact (HR.out.2.1.ext ((Below.refl _ _).alloc (Nat.le_refl _) _)).mono (by omega), HR.out.2.2.1.alloc HR.out.2.2.1.size _, HR.out.2.2.2⟩
          clear r1 r2
          go_wp2
          go_roundw
          case rel => exact ⟨k + 1, by omega, by go_num, HN.out⟩
          case measure => simp [intOf]; omega
        · have hw3 : (ew == 3) = false := by simpa using hw
          clear hw
          have hok : okEA (AK.ek ea eb) := okE_ofA (by unfold AK.ek; simp only; omega) (by unfold AK.ek; simp only; omega)
          go_wp2_with fail
          refine (of_any _ ea eb).mono ?_
          rintro e w2 ⟨rfl, hb2⟩
          have hz : wr.heap.size < w2.heap.size := by have := hb2.size; simp at this; omega
          have bl : Blk w2 wr.heap.size 51 #[.int .i64 ew, .int .i64 ea, .int .i64 eb] := (Blk.new wr _ _).chg (Chg.of_below hb2) (by simp)
          have g0 : w2.cell? ⟨wr.heap.size, 0, none⟩ = some (.int .i64 ew) := bl.cell 0
          have g1 : w2.cell? ⟨wr.heap.size, 1, none⟩ = some (.int .i64 ea) := bl.cell 1
          have g2 : w2.cell? ⟨wr.heap.size, 2, none⟩ = some (.int .i64 eb) := bl.cell 2
          have B2 : Hid (Below wr.heap.size wr (w2.alloc (.cells #[.int .i64 (AK.ek ea eb).1, .int .i64 (AK.ek ea eb).2] 49))) :=
            (((Below.refl _ _).alloc (Nat.le_refl _) _).trans (Below.mono hb2 (by simp))).alloc (by omega) _
          have HM := Lib.hid (HR.out.2.1.ext B2.out)
          have hlk := HM.out.look (AK.ek ea eb) hok
          have hlk2 := (HM.out.ext (Below.refl _ _).drew).look (AK.ek ea eb) hok
          obtain ⟨t, ht⟩ : ∃ t, AK.there (l.take k) (AK.ek ea eb) = t := ⟨_, rfl⟩
          have HT := Lib.hid ht
          have HOK := Lib.hid hok
          rw [ht] at hlk hlk2
          clear bl hb2 ht hok
          by_cases hab : ea = eb
          · have HB : Hid (AK.chk n l = ((k : Int), some 2)) := HR.out.1.stop HE.out (AK.bad_shape r1 r2 r3 r4 r5 r6 (by simpa using hw3) hab)
            have hab' : (ea == eb) = true := by simpa using hab
            have HZ : Hid (Below w.heap.size w _) := HR.out.2.2.1.trans (Below.mono B2.out HR.out.2.2.1.size)
            clear hab
            go_wp2
            go_ret2
            exact ChkPost.mk HB.out HZ.out
          · have hab' : (ea == eb) = false := by simpa using hab
            have HAB := Lib.hid hab
            clear hab
            by_cases hw1 : ew = 1
            · have W1 := Lib.hid hw1
              have hw1' : (ew == 1) = true := by simpa using hw1
              have hw2' : (ew == 2) = false := by rw [beq_eq_false_iff_ne]; omega
              clear hw1
              cases t with
              | true =>
                have HB : Hid (AK.chk n l = ((k : Int), some 6)) := HR.out.1.stop HE.out (AK.bad_clash r1 r2 r3 r4 r5 r6 W1.out HAB.out HT.out)
                have HZ : Hid (Below w.heap.size w _) := HR.out.2.2.1.trans (Below.mono B2.out HR.out.2.2.1.size)
                rw [if_pos rfl] at hlk hlk2
                go_wp2
                go_ret2
                exact ChkPost.mk HB.out HZ.out
              | false =>
                rw [if_neg (by simp)] at hlk hlk2
                obtain ⟨w4, hp, hm4, hc4⟩ := (HM.out.ext (Below.refl _ _).drew).put (by omega) (AK.ek ea eb) HOK.out 1 (by decide)
                have HN : Hid (ChkRel w n l w.heap.size (k + 1) w4) := HR.out.flip HE.out (by simp only; have := W1.out; omega) (AK.bad_add r1 r2 r3 r4 r5 r6 W1.out HAB.out HT.out) B2.out.drew hm4 hc4 HT.out rfl
                clear hm4 hc4
                go_wp2
                go_region
                all_goals go_wp2
                go_roundw
                case rel => exact ⟨k + 1, by omega, by go_num, HN.out⟩
                case measure => simp [intOf]; omega
            · have hw2 : ew = 2 := by have : ew ≠ 3 := by simpa using hw3
                                      omega
              have W2 := Lib.hid hw2
              have hw1' : (ew == 1) = false := by simpa using hw1
              have hw2' : (ew == 2) = true := by simpa using hw2
              clear hw1 hw2
              cases t with
              | false =>
                have HB : Hid (AK.chk n l = ((k : Int), some 4)) := HR.out.1.stop HE.out (AK.bad_none r1 r2 r3 r4 r5 r6 W2.out HAB.out HT.out)
                have HZ : Hid (Below w.heap.size w _) := HR.out.2.2.1.trans (Below.mono B2.out HR.out.2.2.1.size)
                rw [if_neg (by simp)] at hlk hlk2
                go_wp2
                go_ret2
                exact ChkPost.mk HB.out HZ.out
              | true =>
                rw [if_pos rfl] at hlk hlk2
                obtain ⟨w4, hp, hm4, hc4⟩ := (HM.out.ext (Below.refl _ _).drew).put (by omega) (AK.ek ea eb) HOK.out 0 (by decide)
                have HN : Hid (ChkRel w n l w.heap.size (k + 1) w4) := HR.out.flip HE.out (by simp only; have := W2.out; omega) (AK.bad_drop r1 r2 r3 r4 r5 r6 W2.out HAB.out HT.out) B2.out.drew hm4 hc4 HT.out rfl
                clear hm4 hc4
                go_wp2
                go_region
                all_goals go_wp2
                go_roundw
                case rel => exact ⟨k + 1, by omega, by go_num, HN.out⟩
                case measure => simp [intOf]; omega
      · have HB : Hid (AK.chk n l = ((k : Int), some 1)) := HR.out.1.stop HE.out (AK.bad_range (by omega))
        have HN := Lib.hid (HR.out.2.2.1.alloc HR.out.2.2.1.size (.cells #[.int .i64 ew, .int .i64 ea, .int .i64 eb] 51))
        have hnr := Lib.hid hr
        clear hr
        go_wp2
        all_goals first
          | (go_ret2; exact ChkPost.mk HB.out HN.out)
          | (exfalso; exact hnr.out (by omega))
    · go_wp2
      go_ret2
      exact ChkPost.mk (HR.out.1.end_ (by have := HL.out; omega)) HR.out.2.2.1
end Go.Proofs.YthgniehfejklhaaGreat
namespace Go.Proofs.YthgniehfejklhaaGreat
open Go Go.RowKit
set_option linter.unusedVariables false

theorem AK.good_in {n : Int} {t : AK.Ed → Bool} {w a b : Int} (h : AK.bad n t ⟨w, a, b⟩ = none) : 1 ≤ w ∧ w ≤ 3 ∧ 0 ≤ a ∧ a < n ∧ 0 ≤ b ∧ b < n := by
  by_cases c : w < 1 ∨ 3 < w ∨ a < 0 ∨ n ≤ a ∨ b < 0 ∨ n ≤ b
  · rw [AK.bad_range c] at h; cases h
  · omega
theorem AK.drop_there {n : Int} {t : AK.Ed → Bool} {w a b : Int} (h : AK.bad n t ⟨w, a, b⟩ = none) (hw : w = 2) : t (AK.ek a b) = true := by
  have := AK.good_in h
  cases ht : t (AK.ek a b) with
  | true => rfl
  | false =>
    by_cases hab : a = b
    · rw [AK.bad_shape (by omega) (by omega) (by omega) (by omega) (by omega) (by omega) (by omega) hab] at h; cases h
    · rw [AK.bad_none (by omega) (by omega) (by omega) (by omega) (by omega) (by omega) hw hab ht] at h; cases h
def lfV (x : AK.Lf) : List Value := [.int .i64 x.ed.1, .int .i64 x.ed.2, .int .i64 (x.fr : Nat), .int .i64 (x.til : Nat)]
theorem lfV_len (x : AK.Lf) : (lfV x).length = 4 := rfl
theorem infoLife : (Tryz.prog.info? 162).map (fun i => (i.zero, i.size, i.bytes)) = some (some (.agg #[.int .i64 0, .int .i64 0, .int .i64 0, .int .i64 0]), 4, 32) := by kernel_rfl
def LRow (w : World) (v : Value) (xs : List AK.Lf) : Prop := w.ownsRow 0 162 4 v xs.length (rowsOf lfV xs)
structure LvRel (w : World) (l : List AK.Ev) (B k : Nat) (v : Value) (wr : World) : Prop where
  row : LRow wr v (AK.livesTo l k).out
  map : MapAt wr B k (fun x => ((AK.livesTo l k).o x : Nat))
  bel : Below w.heap.size w wr
  new : ∀ j, v.ownBlock = some j → w.heap.size ≤ j
  hB : w.heap.size ≤ B
def LvPost (w : World) (l : List AK.Ev) (e : Ending) (w' : World) : Prop := ∃ A c, e = .returned (.slice A (AK.lives l).length c) ∧ LRow w' (.slice A (AK.lives l).length c) (AK.lives l) ∧ Below w.heap.size w w' ∧ ∀ j, (Value.slice A (AK.lives l).length c).ownBlock = some j → w.heap.size ≤ j
theorem LvRel.ext {w wr w' : World} {l : List AK.Ev} {B k : Nat} {v : Value} (h : LvRel w l B k v wr) (hb : Below wr.heap.size wr w') : LvRel w l B k v w' :=
  ⟨own_chg h.row (Chg.of_below hb) (fun j hj => by have := own_lt h.row hj; omega), h.map.ext hb, h.bel.trans (Below.mono hb h.bel.size), h.new, h.hB⟩
theorem LvRel.ask {w wr : World} {l : List AK.Ev} {B k : Nat} {v : Value} {e : AK.Ev} (h : LvRel w l B k v wr) (he : l[k]? = some e) (hw : e.w = 3) : LvRel w l B (k + 1) v wr := by
  have hs : AK.livesTo l (k + 1) = AK.livesTo l k := by
    rw [AK.livesTo, List.getD_eq_getElem?_getD, he, Option.getD_some, AK.lstep, if_neg (by omega), if_neg (by omega)]
  exact ⟨by rw [hs]; exact h.row, by rw [hs]; exact h.map.mono (by omega), h.bel, h.new, h.hB⟩
theorem livesTo_add {l : List AK.Ev} {k : Nat} {e : AK.Ev} (he : l[k]? = some e) (hw : e.w = 1) : AK.livesTo l (k + 1) = ⟨AK.upd (AK.livesTo l k).o e.ed (AK.livesTo l k).out.length, (AK.livesTo l k).out ++ [⟨e.ed, k, l.length⟩]⟩ := by
  rw [AK.livesTo, List.getD_eq_getElem?_getD, he, Option.getD_some, AK.lstep, if_pos hw]
theorem livesTo_drop {l : List AK.Ev} {k : Nat} {e : AK.Ev} (he : l[k]? = some e) (hw : e.w = 2) : AK.livesTo l (k + 1) = ⟨(AK.livesTo l k).o, (AK.livesTo l k).out.modify ((AK.livesTo l k).o e.ed) fun x => { x with til := k }⟩ := by
  rw [AK.livesTo, List.getD_eq_getElem?_getD, he, Option.getD_some, AK.lstep, if_neg (by omega), if_pos hw]
theorem LvRel.row4 {w w3 w4 : World} {l : List AK.Ev} {B k : Nat} {v : Value} (h : LvRel w l B k v w3) (hc4 : Chg (fun j => j = B) w3 w4) : LRow w4 v (AK.livesTo l k).out :=
  own_chg h.row hc4 (fun j hj e => own_ne_map h.row h.map (by rw [hj, e]))
theorem LvRel.add {w w3 w4 w5 : World} {l : List AK.Ev} {B k g c : Nat} {v : Value} {e : AK.Ev} {o : Obj} (h : LvRel w l B k v w3) (hc4 : Chg (fun j => j = B) w3 w4) (he : l[k]? = some e) (hw : e.w = 1)
    (hm : MapAt w4 B (k + 1) (updI (fun x => ((AK.livesTo l k).o x : Nat)) e.ed ((AK.livesTo l k).out.length : Nat)))
    (ho : w5.ownsRow 0 162 4 (.slice (some ⟨g, 0, none⟩) ((AK.livesTo l k).out.length + 1) c) ((AK.livesTo l k).out.length + 1) (rowsOf lfV (AK.livesTo l k).out ++ lfV ⟨e.ed, k, l.length⟩))
    (hc : Chg (fun j => v.ownBlock = some j) (w4.alloc o) w5) (hat : v.ownBlock = some g ∨ g = (w4.alloc o).heap.size) : LvRel w l B (k + 1) (.slice (some ⟨g, 0, none⟩) ((AK.livesTo l k).out.length + 1) c) w5 := by
  have hs := livesTo_add he hw
  have hap := own_ne_map h.row h.map
  refine ⟨?_, ?_, ((((Chg.of_below h.bel).trans hc4 (fun i _ hi => by have := h.hB; omega)).alloc o).trans hc (fun i _ hi => h.new i hi)).below (Nat.le_refl _) (fun _ _ h => h), ?_, h.hB⟩
  · rw [hs]; unfold LRow
    simp only [List.length_append, List.length_singleton, rowsOf_app, rowsOf_one]
    exact ho
  · rw [hs]
    have : (fun x => ((AK.upd (AK.livesTo l k).o e.ed (AK.livesTo l k).out.length x : Nat) : Int)) = updI (fun x => ((AK.livesTo l k).o x : Nat)) e.ed ((AK.livesTo l k).out.length : Nat) := by
      funext x; unfold AK.upd updI; split <;> rfl
    simp only
    rw [this]
    exact (hm.ext ((Below.refl _ _).alloc (Nat.le_refl _) o)).chg hc hap
  · intro j hj
    have : g = j := by simpa [Value.ownBlock] using hj
    subst this
    rcases hat with hat | hat
    · exact h.new _ hat
    · have := h.bel.size; have := hc4.size; simp at hat; omega
theorem LvRel.drop {w wr : World} {l : List AK.Ev} {B k g c j : Nat} {e : AK.Ev} {x : AK.Lf} (h : LvRel w l B k (.slice (some ⟨g, 0, none⟩) (AK.livesTo l k).out.length c) wr) (he : l[k]? = some e) (hw : e.w = 2)
    (hj : (AK.livesTo l k).o e.ed = j) (hx : (AK.livesTo l k).out[j]? = some x) : LvRel w l B (k + 1) (.slice (some ⟨g, 0, none⟩) (AK.livesTo l k).out.length c) (wr.setCell ⟨g, j * 4 + 3, none⟩ (.int .i64 (k : Nat))) := by
  have hs := livesTo_drop he hw
  have hap := own_ne_map h.row h.map
  have hg : w.heap.size ≤ g := h.new g (by simp [Value.ownBlock])
  refine ⟨?_, ?_, h.bel.setCell hg _, h.new, h.hB⟩
  · rw [hs]; unfold LRow
    simp only [List.length_modify]
    have := (World.ownsRow.stored h.row (j * 4 + 3) (.int .i64 (k : Nat))).1
    have e2 : (rowsOf lfV (AK.livesTo l k).out).set (j * 4 + 3) (.int .i64 (k : Nat)) = rowsOf lfV ((AK.livesTo l k).out.modify ((AK.livesTo l k).o e.ed) fun x => { x with til := k }) := by
      rw [hj]
      generalize (AK.livesTo l k).out = xs at hx ⊢
      clear h hs hap this hj
      induction xs generalizing j with
      | nil => simp at hx
      | cons y ys ih =>
        cases j with
        | zero => simp at hx; subst hx; simp [rowsOf, lfV]
        | succ j =>
          have := ih (j := j) (by simpa using hx)
          rw [List.modify_succ_cons, rowsOf_cons, rowsOf_cons, ← this, List.set_append, lfV_len, if_neg (by omega), show (j + 1) * 4 + 3 - 4 = j * 4 + 3 by omega]
    rw [← e2]; exact this
  · rw [hs]
    exact (h.map.mono (by omega)).chg (chg_at _ _ _ _) (fun e => hap (by rw [e]; rfl))

set_option maxHeartbeats 2000000 in
set_option maxRecDepth 100000 in
theorem lives_any (w : World) (n : Int) (A : Option Addr) (len c : Nat) (l : List AK.Ev) (hl : l.length = len) (h : EvsAt w A l) (hgd : AK.Good n l) :
    Calls Tryz.prog 58 #[.slice A len c] w (LvPost w l) := by
  have H := Lib.hid h
  have HL := Lib.hid hl
  have HG := Lib.hid hgd
  have hlm : len ≤ 120 := by have := hgd.2.2.1; omega
  clear h hl hgd
  have hmm := @run_makeMap Tryz.prog
  go_enter Tryz.func58, Tryz.ntmps58
  go_wp2
  go_loopw [11, 3] (fun v s wr => ∃ (k : Nat) (A' : Option Addr) (c' : Nat), k ≤ len ∧ v = .int .i64 k ∧ s = .slice A' (AK.livesTo l k).out.length c' ∧ LvRel w l w.heap.size k s wr) (fun v _ _ => len - (intOf v).toNat)
  case atStart =>
    exact ⟨0, none, 0, by omega, rfl, rfl, World.ownsRow_nil _ _ _ _, MapAt.made w, (Below.refl _ _).alloc (Nat.le_refl _) _, by simp [Value.ownBlock], Nat.le_refl _⟩
  case round =>
    obtain ⟨k, A', c', hk, rfl, rfl, hR⟩ := hrel
    have HR := Lib.hid hR
    clear hR
    by_cases hlt : k < len
    · obtain ⟨e, he⟩ : ∃ e, l[k]? = some e := ⟨_, List.getElem?_eq_getElem (by have := HL.out; omega)⟩
      have HE := Lib.hid he
      rcases (H.out.ext (HR.out.bel)) with h0 | ⟨b, off, rfl, hbl, hev⟩
      · rw [h0] at he; simp at he
      obtain ⟨e1, e2, e3⟩ := hev k e he
      have hbad := HG.out.2.2.2 k e he
      obtain ⟨ew, ea, eb⟩ := e
      simp only at e1 e2 e3
      have HB := Lib.hid hbad
      have hok : okEA (AK.ek ea eb) := by
        have := AK.good_in hbad
        have h2 := HG.out.2.1
        exact okE_ofA (by unfold AK.ek; simp only; omega) (by unfold AK.ek; simp only; omega)
      have HOK := Lib.hid hok
      clear hev he hbad hok
      go_wp2_with fail
      refine (of_any _ ea eb).mono ?_
      rintro e w2 ⟨rfl, hb2⟩
      have hz : wr.heap.size < w2.heap.size := by have := hb2.size; simp at this; omega
      have bl : Blk w2 wr.heap.size 51 #[.int .i64 ew, .int .i64 ea, .int .i64 eb] := (Blk.new wr _ _).chg (Chg.of_below hb2) (by simp)
      have g0 : w2.cell? ⟨wr.heap.size, 0, none⟩ = some (.int .i64 ew) := bl.cell 0
      have B2 : Hid (Below wr.heap.size wr (w2.alloc (.cells #[.int .i64 (AK.ek ea eb).1, .int .i64 (AK.ek ea eb).2] 49))) :=
        (((Below.refl _ _).alloc (Nat.le_refl _) _).trans (Below.mono hb2 (by simp))).alloc (by omega) _
      have HN := Lib.hid (HR.out.ext B2.out)
      clear bl hb2
      by_cases hw1 : ew = 1
      · have W1 := Lib.hid hw1
        have hw1' : (ew == 1) = true := by simpa using hw1
        clear hw1
        have hcnt := (AK.lives_to HG.out k (by have := HL.out; omega)).cnt
        obtain ⟨w4, hp, hm4, hc4⟩ := HN.out.map.put (by omega) (AK.ek ea eb) HOK.out ((AK.livesTo l k).out.length : Nat) (WalkArith.wf_i64 (by omega))
        have h23 : w.heap.size ≤ wr.heap.size := HR.out.bel.size
        have be : Blk w4 w2.heap.size 49 #[.int .i64 (AK.ek ea eb).1, .int .i64 (AK.ek ea eb).2] := (Blk.new w2 _ _).chg hc4 (by omega)
        have f0 : w4.cell? ⟨w2.heap.size, 0, none⟩ = some (.int .i64 (AK.ek ea eb).1) := be.cell 0
        have f1 : w4.cell? ⟨w2.heap.size, 1, none⟩ = some (.int .i64 (AK.ek ea eb).2) := be.cell 1
        have ROW := Lib.hid ((HN.out.row4 hc4).alloc (.cells (lfV ⟨AK.ek ea eb, k, len⟩).toArray 162))
        have HC4 := Lib.hid hc4
        have HM4 := Lib.hid hm4
        clear be hc4 hm4
        go_wp2_with (first
          | (at_builtin; refine wpList_pushS _ rfl (.tmp 29) (.tmp 35) 118 rfl 162 _ 4 32 Tryz.underlying118 infoLife rfl (by decide) _ _ _ rfl ROW.out ⟨by omega, by omega⟩ (lfV ⟨AK.ek ea eb, k, len⟩) w4.heap.size rfl rfl (news_cells rfl _ _) (by simp [lfV, Value.oneCell']) ?_; intro g5 c5 w5 ho5 hc5 hat5 _; have HA := Lib.hid (HN.out.add HC4.out HE.out W1.out HM4.out (by rw [HL.out]; exact ho5) hc5 hat5); clear ho5 hc5 hat5))
        have ES : Hid ((AK.livesTo l (k + 1)).out.length = (AK.livesTo l k).out.length + 1) := by unfold Hid; rw [livesTo_add HE.out W1.out]; simp
        go_roundw
        case rel => exact ⟨k + 1, some ⟨g5, 0, none⟩, c5, by omega, by go_num, by rw [ES.out], HA.out⟩
        case measure => simp [intOf]; omega
      · by_cases hw2 : ew = 2
        · have W2 := Lib.hid hw2
          have hw1' : (ew == 1) = false := by simpa using hw1
          have hw2' : (ew == 2) = true := by simpa using hw2
          clear hw1 hw2
          have hth : AK.there (l.take k) (AK.ek ea eb) = true := AK.drop_there HB.out W2.out
          obtain ⟨y, hy, _, _⟩ := (AK.lives_to HG.out k (by have := HL.out; omega)).opn _ hth
          obtain ⟨j, hj⟩ : ∃ j, (AK.livesTo l k).o (AK.ek ea eb) = j := ⟨_, rfl⟩
          rw [hj] at hy
          have hjn : j < (AK.livesTo l k).out.length := (List.getElem?_eq_some_iff.1 hy).1
          obtain ⟨g, cg, hv, hcg, _⟩ := own_form HN.out.row (by omega)
          simp only [Value.slice.injEq, true_and] at hv
          obtain ⟨rfl, rfl⟩ := hv
          have hlk := HN.out.map.look (AK.ek ea eb) HOK.out
          rw [hj] at hlk
          have hfz := World.ownsRow.frozenAt HN.out.row (j * 4 + 3)
          have hcl : _ = some (Value.int .i64 (y.til : Nat)) := (World.ownsRow.cellAt HN.out.row (j * 4 + 3) (by omega)).trans (rowsOf_get (f := lfV) (S := 4) (fun a _ => lfV_len a) hy (j := 3) rfl)
          have HD := Lib.hid (HN.out.drop HE.out W2.out hj hy)
          have z0 : (0 : Int) ≤ (j : Int) := by omega
          have es : (AK.livesTo l (k + 1)).out.length = (AK.livesTo l k).out.length := by rw [livesTo_drop HE.out W2.out]; simp
          have ES := Lib.hid es
          have HY := Lib.hid hy
          have HJ := Lib.hid hj
          clear hth hy hj es
          go_wp2
          go_roundw
          case rel => exact ⟨k + 1, some ⟨g, 0, none⟩, c', by omega, by go_num, by rw [ES.out], HD.out⟩
          case measure => simp [intOf]; omega
        · have hw3 : ew = 3 := by have := (AK.good_in HB.out); omega
          have W3 := Lib.hid hw3
          have hw1' : (ew == 1) = false := by simpa using hw1
          have hw2' : (ew == 2) = false := by simpa using hw2
          have HZ := Lib.hid (HN.out.ask HE.out W3.out)
          have es : (AK.livesTo l (k + 1)).out.length = (AK.livesTo l k).out.length := by
            rw [AK.livesTo, List.getD_eq_getElem?_getD, HE.out, Option.getD_some, AK.lstep, if_neg (by simp only; omega), if_neg (by simp only; omega)]
          have ES := Lib.hid es
          clear hw1 hw2 hw3 es
          go_wp2
          go_roundw
          case rel => exact ⟨k + 1, A', c', by omega, by go_num, by rw [ES.out], HZ.out⟩
          case measure => simp [intOf]; omega
    · have hk' : k = l.length := by have := HL.out; omega
      go_wp2
      go_ret
      subst hk'
      exact ⟨A', c', rfl, HR.out.row, HR.out.bel, HR.out.new⟩
end Go.Proofs.YthgniehfejklhaaGreat

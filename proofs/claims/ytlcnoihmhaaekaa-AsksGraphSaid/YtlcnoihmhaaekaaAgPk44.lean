/-
  Walk of asks.lives. Conditions: the events lie in memory as 'EvsAt' says, and nothing is wrong of them.
-/
import Derived.Test.YtlcnoihmhaaekaaAgPk43
import Derived.Test.YtlcnoihmhaaekaaAgPk16
namespace Go.Proofs.Ytlcnoihmhaaekaa
open Go Go.RowKit
set_option linter.unusedVariables false

theorem AK.good_in {n : Int} {t : AK.Ed → Bool} {w a b : Int} (h : AK.bad n t ⟨w, a, b⟩ = none) : 1 ≤ w ∧ w ≤ 3 ∧ 0 ≤ a ∧ a < n ∧ 0 ≤ b ∧ b < n := by
  by_cases c : w < 1 ∨ 3 < w ∨ a < 0 ∨ n ≤ a ∨ b < 0 ∨ n ≤ b
  · rw [AK.bad_range c] at h; cases h
  · omega
theorem AK.drop_there {n : Int} {t : AK.Ed → Bool} {w a b : Int} (h : AK.bad n t ⟨w, a, b⟩ = none) (hw : w = 2) : t (AK.ek a b) = true := by
  have := AK.good_in h
  cases ht : t (AK.ek a b) with
  | true => rfl
  | false =>
    by_cases hab : a = b
    · rw [AK.bad_shape (by omega) (by omega) (by omega) (by omega) (by omega) (by omega) (by omega) hab] at h; cases h
    · rw [AK.bad_none (by omega) (by omega) (by omega) (by omega) (by omega) (by omega) hw hab ht] at h; cases h
def lfV (x : AK.Lf) : List Value := [.int .i64 x.ed.1, .int .i64 x.ed.2, .int .i64 (x.fr : Nat), .int .i64 (x.til : Nat)]
theorem lfV_len (x : AK.Lf) : (lfV x).length = 4 := rfl
theorem infoLife : (Try.prog.info? 120).map (fun i => (i.zero, i.size, i.bytes)) = some (some (.agg #[.int .i64 0, .int .i64 0, .int .i64 0, .int .i64 0]), 4, 32) := by kernel_rfl
def LRow (w : World) (v : Value) (xs : List AK.Lf) : Prop := w.ownsRow 0 120 4 v xs.length (rowsOf lfV xs)
structure LvRel (w : World) (l : List AK.Ev) (B k : Nat) (v : Value) (wr : World) : Prop where
  row : LRow wr v (AK.livesTo l k).out
  map : MapAt wr B k (fun x => ((AK.livesTo l k).o x : Nat))
  bel : Below w.heap.size w wr
  new : ∀ j, v.ownBlock = some j → w.heap.size ≤ j
  hB : w.heap.size ≤ B
def LvPost (w : World) (l : List AK.Ev) (e : Ending) (w' : World) : Prop := ∃ A c, e = .returned (.slice A (AK.lives l).length c) ∧ LRow w' (.slice A (AK.lives l).length c) (AK.lives l) ∧ Below w.heap.size w w' ∧ ∀ j, (Value.slice A (AK.lives l).length c).ownBlock = some j → w.heap.size ≤ j
theorem LvRel.ext {w wr w' : World} {l : List AK.Ev} {B k : Nat} {v : Value} (h : LvRel w l B k v wr) (hb : Below wr.heap.size wr w') : LvRel w l B k v w' :=
  ⟨own_chg h.row (Chg.of_below hb) (fun j hj => by have := own_lt h.row hj; omega), h.map.ext hb, h.bel.trans (Below.mono hb h.bel.size), h.new, h.hB⟩
theorem LvRel.ask {w wr : World} {l : List AK.Ev} {B k : Nat} {v : Value} {e : AK.Ev} (h : LvRel w l B k v wr) (he : l[k]? = some e) (hw : e.w = 3) : LvRel w l B (k + 1) v wr := by
  have hs : AK.livesTo l (k + 1) = AK.livesTo l k := by
    rw [AK.livesTo, List.getD_eq_getElem?_getD, he, Option.getD_some, AK.lstep, if_neg (by omega), if_neg (by omega)]
  exact ⟨by rw [hs]; exact h.row, by rw [hs]; exact h.map.mono (by omega), h.bel, h.new, h.hB⟩
theorem livesTo_add {l : List AK.Ev} {k : Nat} {e : AK.Ev} (he : l[k]? = some e) (hw : e.w = 1) : AK.livesTo l (k + 1) = ⟨AK.upd (AK.livesTo l k).o e.ed (AK.livesTo l k).out.length, (AK.livesTo l k).out ++ [⟨e.ed, k, l.length⟩]⟩ := by
  rw [AK.livesTo, List.getD_eq_getElem?_getD, he, Option.getD_some, AK.lstep, if_pos hw]
theorem livesTo_drop {l : List AK.Ev} {k : Nat} {e : AK.Ev} (he : l[k]? = some e) (hw : e.w = 2) : AK.livesTo l (k + 1) = ⟨(AK.livesTo l k).o, (AK.livesTo l k).out.modify ((AK.livesTo l k).o e.ed) fun x => { x with til := k }⟩ := by
  rw [AK.livesTo, List.getD_eq_getElem?_getD, he, Option.getD_some, AK.lstep, if_neg (by omega), if_pos hw]
theorem LvRel.row4 {w w3 w4 : World} {l : List AK.Ev} {B k : Nat} {v : Value} (h : LvRel w l B k v w3) (hc4 : Chg (fun j => j = B) w3 w4) : LRow w4 v (AK.livesTo l k).out :=
  own_chg h.row hc4 (fun j hj e => own_ne_map h.row h.map (by rw [hj, e]))
theorem LvRel.add {w w3 w4 w5 : World} {l : List AK.Ev} {B k g c : Nat} {v : Value} {e : AK.Ev} {o : Obj} (h : LvRel w l B k v w3) (hc4 : Chg (fun j => j = B) w3 w4) (he : l[k]? = some e) (hw : e.w = 1)
    (hm : MapAt w4 B (k + 1) (updI (fun x => ((AK.livesTo l k).o x : Nat)) e.ed ((AK.livesTo l k).out.length : Nat)))
    (ho : w5.ownsRow 0 120 4 (.slice (some ⟨g, 0, none⟩) ((AK.livesTo l k).out.length + 1) c) ((AK.livesTo l k).out.length + 1) (rowsOf lfV (AK.livesTo l k).out ++ lfV ⟨e.ed, k, l.length⟩))
    (hc : Chg (fun j => v.ownBlock = some j) (w4.alloc o) w5) (hat : v.ownBlock = some g ∨ g = (w4.alloc o).heap.size) : LvRel w l B (k + 1) (.slice (some ⟨g, 0, none⟩) ((AK.livesTo l k).out.length + 1) c) w5 := by
  have hs := livesTo_add he hw
  have hap := own_ne_map h.row h.map
  refine ⟨?_, ?_, ((((Chg.of_below h.bel).trans hc4 (fun i _ hi => by have := h.hB; omega)).alloc o).trans hc (fun i _ hi => h.new i hi)).below (Nat.le_refl _) (fun _ _ h => h), ?_, h.hB⟩
  · rw [hs]; unfold LRow
    simp only [List.length_append, List.length_singleton, rowsOf_app, rowsOf_one]
    exact ho
  · rw [hs]
    have : (fun x => ((AK.upd (AK.livesTo l k).o e.ed (AK.livesTo l k).out.length x : Nat) : Int)) = updI (fun x => ((AK.livesTo l k).o x : Nat)) e.ed ((AK.livesTo l k).out.length : Nat) := by
      funext x; unfold AK.upd updI; split <;> rfl
    simp only
    rw [this]
    exact (hm.ext ((Below.refl _ _).alloc (Nat.le_refl _) o)).chg hc hap
  · intro j hj
    have : g = j := by simpa [Value.ownBlock] using hj
    subst this
    rcases hat with hat | hat
    · exact h.new _ hat
    · have := h.bel.size; have := hc4.size; simp at hat; omega
theorem LvRel.drop {w wr : World} {l : List AK.Ev} {B k g c j : Nat} {e : AK.Ev} {x : AK.Lf} (h : LvRel w l B k (.slice (some ⟨g, 0, none⟩) (AK.livesTo l k).out.length c) wr) (he : l[k]? = some e) (hw : e.w = 2)
    (hj : (AK.livesTo l k).o e.ed = j) (hx : (AK.livesTo l k).out[j]? = some x) : LvRel w l B (k + 1) (.slice (some ⟨g, 0, none⟩) (AK.livesTo l k).out.length c) (wr.setCell ⟨g, j * 4 + 3, none⟩ (.int .i64 (k : Nat))) := by
  have hs := livesTo_drop he hw
  have hap := own_ne_map h.row h.map
  have hg : w.heap.size ≤ g := h.new g (by simp [Value.ownBlock])
  refine ⟨?_, ?_, h.bel.setCell hg _, h.new, h.hB⟩
  · rw [hs]; unfold LRow
    simp only [List.length_modify]
    have := (World.ownsRow.stored h.row (j * 4 + 3) (.int .i64 (k : Nat))).1
    have e2 : (rowsOf lfV (AK.livesTo l k).out).set (j * 4 + 3) (.int .i64 (k : Nat)) = rowsOf lfV ((AK.livesTo l k).out.modify ((AK.livesTo l k).o e.ed) fun x => { x with til := k }) := by
      rw [hj]
      generalize (AK.livesTo l k).out = xs at hx ⊢
      clear h hs hap this hj
      induction xs generalizing j with
      | nil => simp at hx
      | cons y ys ih =>
        cases j with
        | zero => simp at hx; subst hx; simp [rowsOf, lfV]
        | succ j =>
          have := ih (j := j) (by simpa using hx)
          rw [List.modify_succ_cons, rowsOf_cons, rowsOf_cons, ← this, List.set_append, lfV_len, if_neg (by omega), show (j + 1) * 4 + 3 - 4 = j * 4 + 3 by omega]
    rw [← e2]; exact this
  · rw [hs]
    exact (h.map.mono (by omega)).chg (chg_at _ _ _ _) (fun e => hap (by rw [e]; rfl))

set_option maxHeartbeats 2000000 in
set_option maxRecDepth 100000 in
theorem lives_any (w : World) (n : Int) (A : Option Addr) (len c : Nat) (l : List AK.Ev) (hl : l.length = len) (h : EvsAt w A l) (hgd : AK.Good n l) :
    Calls Try.prog 51 #[.slice A len c] w (LvPost w l) := by
  have H := Lib.hid h
  have HL := Lib.hid hl
  have HG := Lib.hid hgd
  have hlm : len ≤ 120 := by have := hgd.2.2.1; omega
  clear h hl hgd
  have hmm := @run_makeMap Try.prog
  go_enter Try.func51, Try.ntmps51
  go_wp2
  go_loopw [11, 3] (fun v s wr => ∃ (k : Nat) (A' : Option Addr) (c' : Nat), k ≤ len ∧ v = .int .i64 k ∧ s = .slice A' (AK.livesTo l k).out.length c' ∧ LvRel w l w.heap.size k s wr) (fun v _ _ => len - (intOf v).toNat)
  case atStart =>
    exact ⟨0, none, 0, by omega, rfl, rfl, World.ownsRow_nil _ _ _ _, MapAt.made w, (Below.refl _ _).alloc (Nat.le_refl _) _, by simp [Value.ownBlock], Nat.le_refl _⟩
  case round =>
    obtain ⟨k, A', c', hk, rfl, rfl, hR⟩ := hrel
    have HR := Lib.hid hR
    clear hR
    by_cases hlt : k < len
    · obtain ⟨e, he⟩ : ∃ e, l[k]? = some e := ⟨_, List.getElem?_eq_getElem (by have := HL.out; omega)⟩
      have HE := Lib.hid he
      rcases (H.out.ext (HR.out.bel)) with h0 | ⟨b, off, rfl, hbl, hev⟩
      · rw [h0] at he; simp at he
      obtain ⟨e1, e2, e3⟩ := hev k e he
      have hbad := HG.out.2.2.2 k e he
      obtain ⟨ew, ea, eb⟩ := e
      simp only at e1 e2 e3
      have HB := Lib.hid hbad
      have hok : okEA (AK.ek ea eb) := by
        have := AK.good_in hbad
        have h2 := HG.out.2.1
        exact okE_ofA (by unfold AK.ek; simp only; omega) (by unfold AK.ek; simp only; omega)
      have HOK := Lib.hid hok
      clear hev he hbad hok
      go_wp2_with fail
      refine (of_any _ ea eb).mono ?_
      rintro e w2 ⟨rfl, hb2⟩
      have hz : wr.heap.size < w2.heap.size := by have := hb2.size; simp at this; omega
      have bl : Blk w2 wr.heap.size 60 #[.int .i64 ew, .int .i64 ea, .int .i64 eb] := (Blk.new wr _ _).chg (Chg.of_below hb2) (by simp)
      have g0 : w2.cell? ⟨wr.heap.size, 0, none⟩ = some (.int .i64 ew) := bl.cell 0
      have B2 : Hid (Below wr.heap.size wr (w2.alloc (.cells #[.int .i64 (AK.ek ea eb).1, .int .i64 (AK.ek ea eb).2] 38))) :=
        (((Below.refl _ _).alloc (Nat.le_refl _) _).trans (Below.mono hb2 (by simp))).alloc (by omega) _
      have HN := Lib.hid (HR.out.ext B2.out)
      clear bl hb2
      by_cases hw1 : ew = 1
      · have W1 := Lib.hid hw1
        have hw1' : (ew == 1) = true := by simpa using hw1
        clear hw1
        have hcnt := (AK.lives_to HG.out k (by have := HL.out; omega)).cnt
        obtain ⟨w4, hp, hm4, hc4⟩ := HN.out.map.put (by omega) (AK.ek ea eb) HOK.out ((AK.livesTo l k).out.length : Nat) (WalkArith.wf_i64 (by omega))
        have h23 : w.heap.size ≤ wr.heap.size := HR.out.bel.size
        have be : Blk w4 w2.heap.size 38 #[.int .i64 (AK.ek ea eb).1, .int .i64 (AK.ek ea eb).2] := (Blk.new w2 _ _).chg hc4 (by omega)
        have f0 : w4.cell? ⟨w2.heap.size, 0, none⟩ = some (.int .i64 (AK.ek ea eb).1) := be.cell 0
        have f1 : w4.cell? ⟨w2.heap.size, 1, none⟩ = some (.int .i64 (AK.ek ea eb).2) := be.cell 1
        have ROW := Lib.hid ((HN.out.row4 hc4).alloc (.cells (lfV ⟨AK.ek ea eb, k, len⟩).toArray 120))
        have HC4 := Lib.hid hc4
        have HM4 := Lib.hid hm4
        clear be hc4 hm4
        go_wp2_with (first
          | (at_builtin; refine wpList_pushS _ rfl (.tmp 29) (.tmp 35) 100 rfl 120 _ 4 32 Try.underlying100 infoLife rfl (by decide) _ _ _ rfl ROW.out ⟨by omega, by omega⟩ (lfV ⟨AK.ek ea eb, k, len⟩) w4.heap.size rfl rfl (news_cells rfl _ _) (by simp [lfV, Value.oneCell']) ?_; intro g5 c5 w5 ho5 hc5 hat5 _; have HA := Lib.hid (HN.out.add HC4.out HE.out W1.out HM4.out (by rw [HL.out]; exact ho5) hc5 hat5); clear ho5 hc5 hat5))
        have ES : Hid ((AK.livesTo l (k + 1)).out.length = (AK.livesTo l k).out.length + 1) := by unfold Hid; rw [livesTo_add HE.out W1.out]; simp
        go_roundw
        case rel => exact ⟨k + 1, some ⟨g5, 0, none⟩, c5, by omega, by go_num, by rw [ES.out], HA.out⟩
        case measure => simp [intOf]; omega
      · by_cases hw2 : ew = 2
        · have W2 := Lib.hid hw2
          have hw1' : (ew == 1) = false := by simpa using hw1
          have hw2' : (ew == 2) = true := by simpa using hw2
          clear hw1 hw2
          have hth : AK.there (l.take k) (AK.ek ea eb) = true := AK.drop_there HB.out W2.out
          obtain ⟨y, hy, _, _⟩ := (AK.lives_to HG.out k (by have := HL.out; omega)).opn _ hth
          obtain ⟨j, hj⟩ : ∃ j, (AK.livesTo l k).o (AK.ek ea eb) = j := ⟨_, rfl⟩
          rw [hj] at hy
          have hjn : j < (AK.livesTo l k).out.length := (List.getElem?_eq_some_iff.1 hy).1
          obtain ⟨g, cg, hv, hcg, _⟩ := own_form HN.out.row (by omega)
          simp only [Value.slice.injEq, true_and] at hv
          obtain ⟨rfl, rfl⟩ := hv
          have hlk := HN.out.map.look (AK.ek ea eb) HOK.out
          rw [hj] at hlk
          have hfz := World.ownsRow.frozenAt HN.out.row (j * 4 + 3)
          have hcl : _ = some (Value.int .i64 (y.til : Nat)) := (World.ownsRow.cellAt HN.out.row (j * 4 + 3) (by omega)).trans (rowsOf_get (f := lfV) (S := 4) (fun a _ => lfV_len a) hy (j := 3) rfl)
          have HD := Lib.hid (HN.out.drop HE.out W2.out hj hy)
          have z0 : (0 : Int) ≤ (j : Int) := by omega
          have es : (AK.livesTo l (k + 1)).out.length = (AK.livesTo l k).out.length := by rw [livesTo_drop HE.out W2.out]; simp
          have ES := Lib.hid es
          have HY := Lib.hid hy
          have HJ := Lib.hid hj
          clear hth hy hj es
          go_wp2
          go_roundw
          case rel => exact ⟨k + 1, some ⟨g, 0, none⟩, c', by omega, by go_num, by rw [ES.out], HD.out⟩
          case measure => simp [intOf]; omega
        · have hw3 : ew = 3 := by have := (AK.good_in HB.out); omega
          have W3 := Lib.hid hw3
          have hw1' : (ew == 1) = false := by simpa using hw1
          have hw2' : (ew == 2) = false := by simpa using hw2
          have HZ := Lib.hid (HN.out.ask HE.out W3.out)
          have es : (AK.livesTo l (k + 1)).out.length = (AK.livesTo l k).out.length := by
            rw [AK.livesTo, List.getD_eq_getElem?_getD, HE.out, Option.getD_some, AK.lstep, if_neg (by simp only; omega), if_neg (by simp only; omega)]
          have ES := Lib.hid es
          clear hw1 hw2 hw3 es
          go_wp2
          go_roundw
          case rel => exact ⟨k + 1, A', c', by omega, by go_num, by rw [ES.out], HZ.out⟩
          case measure => simp [intOf]; omega
    · have hk' : k = l.length := by have := HL.out; omega
      go_wp2
      go_ret
      subst hk'
      exact ⟨A', c', rfl, HR.out.row, HR.out.bel, HR.out.new⟩
end Go.Proofs.Ytlcnoihmhaaekaa

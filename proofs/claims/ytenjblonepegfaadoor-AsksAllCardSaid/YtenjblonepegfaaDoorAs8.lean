/-
  asks.Spans: the lives' ends, or the error. Condition: the events lie in memory as 'EvsAt' says.
-/
import Derived.Test.YtenjblonepegfaaDoorAs6
import Derived.Test.YtenjblonepegfaaDoorTw
import Derived.Test.YtenjblonepegfaaDoorSp
namespace Go.Proofs.YtenjblonepegfaaDoor
open Go Go.RowKit
set_option linter.unusedVariables false

set_option maxHeartbeats 1000000 in
theorem spans_no (w : World) (n : Int) (A : Option Addr) (len c : Nat) (l : List AK.Ev) (hl : l.length = len) (hlm : len ≤ 9223372036854775807) (h : EvsAt w A l) (x : Int) (hx : (AK.chk n l).2 = some x) :
    Calls Tryd.prog 38 #[.int .i64 n, .slice A len c] w (AnsNo w n l x) := by
  have H := Lib.hid h
  have HL := Lib.hid hl
  have HX := Lib.hid hx
  clear h hl hx
  go_enter Tryd.func38, Tryd.ntmps38
  go_wp2_with fail
  refine (chk_any _ n A len c l HL.out hlm H.out).mono ?_
  rintro e w2 ⟨rfl, hb⟩
  rw [HX.out, show oErr (some x) = aerrV x from rfl]
  go_wp2
  go_ret2
  exact ⟨rfl, hb⟩
def SpYes (w : World) (l : List AK.Ev) (e : Ending) (w' : World) : Prop :=
  ∃ (A : Option Addr) (q c : Nat), e = .returned (.tuple #[.slice A q c, .nilIface]) ∧ w'.ownsRow 0 143 2 (.slice A q c) q (rowsOf twC (AK.lfSpans l)) ∧ (AK.lfSpans l).length = q ∧ q ≤ 120 ∧ Below w.heap.size w w'
set_option maxHeartbeats 2000000 in
set_option maxRecDepth 100000 in
theorem spans_yes (w : World) (n : Int) (A : Option Addr) (len c : Nat) (l : List AK.Ev) (hl : l.length = len) (h : EvsAt w A l) (hg : AK.Good n l) :
    Calls Tryd.prog 38 #[.int .i64 n, .slice A len c] w (SpYes w l) := by
  have hlm : len ≤ 120 := by have := hg.2.2.1; omega
  have H := Lib.hid h
  have HL := Lib.hid hl
  have HG := Lib.hid hg
  clear h hl hg
  go_enter Tryd.func38, Tryd.ntmps38
  go_wp2_with fail
  refine (chk_any _ n A len c l HL.out (by omega) H.out).mono ?_
  rintro e w2 ⟨rfl, hb2⟩
  have HB2 := Lib.hid hb2
  rw [HG.out.fst, show oErr none = .nilIface from rfl]
  clear hb2
  go_wp2_with fail
  refine (lives_any _ n A len c l HL.out (H.out.ext HB2.out) HG.out).mono ?_
  rintro e w4 ⟨LA, lc, rfl, hlr, hb4, hln⟩
  have hll : (AK.lives l).length ≤ 120 := by have := (AK.lives_ok HG.out).cnt; have := HL.out; unfold AK.lives; omega
  unfold LRow at hlr
  obtain ⟨m, hm⟩ : ∃ m, m = (AK.lives l).length := ⟨_, rfl⟩
  rw [← hm] at hlr hll hln ⊢
  have HLR := Lib.hid hlr
  have HM := Lib.hid hm
  have HB4 : Hid (Below w.heap.size w w4) := HB2.out.trans (Below.mono hb4 HB2.out.size)
  have HSL : Hid ((AK.lfSpans l).length = m) := by unfold Hid AK.lfSpans; rw [List.length_map, HM.out]
  clear hlr hm hb4 hln
  go_wp2
  go_loopw [8, 23] (fun v8 v23 wr => ∃ (k : Nat) (A8 : Option Addr) (c8 : Nat), k ≤ m ∧ v23 = .int .i64 k ∧ v8 = .slice A8 k c8 ∧ Hid (wr.ownsRow 0 143 2 (.slice A8 k c8) k (rowsOf twC ((AK.lfSpans l).take k)) ∧ wr.ownsRow 0 154 4 (.slice LA m lc) m (rowsOf lfV (AK.lives l)) ∧ Below w.heap.size w wr ∧ ∀ j, (Value.slice A8 k c8).ownBlock = some j → w.heap.size ≤ j)) (fun _ v23 _ => m - (intOf v23).toNat)
  case atStart => exact ⟨0, none, 0, by omega, rfl, rfl, World.ownsRow_nil _ _ _ _, HLR.out, HB4.out, fun j hj => by simp [Value.ownBlock] at hj⟩
  case round =>
    obtain ⟨k, A8, c8, hk, rfl, rfl, HR⟩ := hrel
    by_cases hkm : k < m
    · obtain ⟨x, hx⟩ : ∃ x, (AK.lives l)[k]? = some x := ⟨_, List.getElem?_eq_getElem (by have := HM.out; omega)⟩
      have hrow := HR.out.2.1
      obtain ⟨gx, cg, hv, hcg, _⟩ := own_form hrow (by omega)
      simp only [Value.slice.injEq] at hv
      obtain ⟨rfl, _, rfl⟩ := hv
      have y0 := (World.ownsRow.cellAt hrow (k * 4 + 0) (by omega)).trans (rowsOf_get (f := lfV) (S := 4) (fun a _ => lfV_len a) hx (j := 0) rfl)
      have y1 := (World.ownsRow.cellAt hrow (k * 4 + 1) (by omega)).trans (rowsOf_get (f := lfV) (S := 4) (fun a _ => lfV_len a) hx (j := 1) rfl)
      have y2 := (World.ownsRow.cellAt hrow (k * 4 + 2) (by omega)).trans (rowsOf_get (f := lfV) (S := 4) (fun a _ => lfV_len a) hx (j := 2) rfl)
      have y3 := (World.ownsRow.cellAt hrow (k * 4 + 3) (by omega)).trans (rowsOf_get (f := lfV) (S := 4) (fun a _ => lfV_len a) hx (j := 3) rfl)
      simp only [Nat.add_zero] at y0
      obtain ⟨⟨xa, xb⟩, fr, tl⟩ := x
      simp only at y0 y1 y2 y3
      have HTK : Hid ((AK.lfSpans l).take (k + 1) = (AK.lfSpans l).take k ++ [(fr, tl)]) := AK.take_next (by unfold AK.lfSpans; rw [List.getElem?_map, hx]; rfl)
      have b1 := (Below.refl wr.heap.size wr).alloc (Nat.le_refl _) (.cells #[.int .i64 xa, .int .i64 xb, .int .i64 (fr : Nat), .int .i64 (tl : Nat)] 154)
      have hr1 := own_chg HR.out.1 (Chg.of_below b1) (fun j hj => by have := own_lt HR.out.1 hj; omega)
      have hl1 := own_chg HR.out.2.1 (Chg.of_below b1) (fun j hj => by have := own_lt HR.out.2.1 hj; omega)
      have HR1 := Lib.hid hr1
      have HL1 := Lib.hid hl1
      have HB1 := Lib.hid (HR.out.2.2.1.alloc HR.out.2.2.1.size (.cells #[.int .i64 xa, .int .i64 xb, .int .i64 (fr : Nat), .int .i64 (tl : Nat)] 154))
      have HOW := Lib.hid HR.out.2.2.2
      have DD := Lib.hid (Blk.new wr 154 #[.int .i64 xa, .int .i64 xb, .int .i64 (fr : Nat), .int .i64 (tl : Nat)])
      have z0 : (0 : Int) ≤ (k : Int) := by omega
      have z1 : (k : Int) < (m : Int) := by omega
      clear hx hrow b1 hr1 hl1 HR
      go_upto_region 8 with fail
      generalize wr.alloc (.cells #[.int .i64 xa, .int .i64 xb, .int .i64 (fr : Nat), .int .i64 (tl : Nat)] 154) = w1 at HR1 HL1 HB1 DD ⊢
      have d2 : w1.cell? ⟨wr.heap.size, 2, none⟩ = some (.int .i64 (fr : Nat)) := DD.out.cell 2
      have d3 : w1.cell? ⟨wr.heap.size, 3, none⟩ = some (.int .i64 (tl : Nat)) := DD.out.cell 3
      go_wp2_with (at_builtin; refine wpList_pushS _ rfl (.tmp 27) (.tmp 33) 73 rfl 143 _ 2 16 Tryd.underlying73 infoTwo rfl (by decide) (.slice A8 k c8) k _ rfl (HR1.out.alloc _) ⟨by omega, by omega⟩ (twC (fr, tl)) w1.heap.size rfl rfl (news_cells rfl _ _) (by simp [twC, Value.oneCell']) ?_; intro g5 c5 w5 ho5 hc5 hat5 _; have HO5 := Lib.hid ho5; have HC5 := Lib.hid hc5; have HT5 := Lib.hid hat5; clear ho5 hc5 hat5)
      have HO6 : Hid (w5.ownsRow 0 143 2 (.slice (some ⟨g5, 0, none⟩) (k + 1) c5) (k + 1) (rowsOf twC ((AK.lfSpans l).take (k + 1)))) := by
        have := HO5.out
        unfold Hid; rw [HTK.out, rowsOf_app]; simpa [rowsOf] using this
      have HL5 : Hid (w5.ownsRow 0 154 4 (.slice (some ⟨gx, 0, none⟩) m lc) m (rowsOf lfV (AK.lives l))) := own_chg (HL1.out.alloc _) HC5.out (fun j hj hs => own_neq HL1.out HR1.out (by decide) hj hs)
      have HB5 : Hid (Below w.heap.size w w5) := (HB1.out.alloc HB1.out.size _).trans (HC5.out.below (HB1.out.alloc HB1.out.size _).size (fun j _ hj => HOW.out j hj))
      have HG5 : Hid (w.heap.size ≤ g5) := by
        rcases HT5.out with h | h
        · exact HOW.out _ h
        · have := HB1.out.size; unfold Hid; rw [h]; simp; omega
      go_roundw
      case rel => exact ⟨k + 1, _, _, by omega, by go_num, rfl, HO6.out, HL5.out, HB5.out, fun j hj => by simp [Value.ownBlock] at hj; have := HG5.out; omega⟩
      case measure => simp [intOf]; omega
    · obtain rfl : k = m := by omega
      go_wp2
      go_ret2
      exact ⟨A8, k, c8, rfl, by have := HR.out.1; rwa [List.take_of_length_le (by rw [HSL.out]; exact Nat.le_refl _)] at this, HSL.out, by omega, HR.out.2.2.1⟩
end Go.Proofs.YtenjblonepegfaaDoor

/-
  The references' answers (AnswersOf). Conditions: the events may be; they lie in memory as 'EvsAt' says.
-/
import Derived.Test.YtenjblonepegfaaDoorRf2
import Derived.Test.YtenjblonepegfaaDoorRf3
namespace Go.Proofs.YtenjblonepegfaaDoor
open Go Go.RowKit
set_option linter.unusedVariables false

theorem infoBoolR : (Tryd.prog.info? 4).map (fun i => (i.zero, i.size, i.bytes)) = some (some (.bool false), 1, 1) := by kernel_rfl
theorem AK.asked_same {l : List AK.Ev} {k : Nat} {e : AK.Ev} (he : l[k]? = some e) (hw : e.w ≠ 3) : AK.asked l 0 (k + 1) = AK.asked l 0 k := by
  rw [AK.asked, Nat.zero_add, List.getD_eq_getElem?_getD, he, Option.getD_some, if_neg hw, List.append_nil]
theorem AK.asked_more {l : List AK.Ev} {k : Nat} {e : AK.Ev} (he : l[k]? = some e) (hw : e.w = 3) : AK.asked l 0 (k + 1) = AK.asked l 0 k ++ [AK.ansAt l k] := by
  rw [AK.asked, Nat.zero_add, List.getD_eq_getElem?_getD, he, Option.getD_some, if_pos hw]
structure ARel (w : World) (n : Int) (l : List AK.Ev) (k m q : Nat) (v5 v6 : Value) (th : List AK.Ed) (wr : World) : Prop where
  f : FRel w n l k m v5 th wr
  row : wr.ownsRow 0 4 1 v6 q ((AK.asked l 0 k).map Value.bool)
  own : ∀ j, v6.ownBlock = some j → w.heap.size ≤ j
theorem ARel.ext {w wr w' : World} {n : Int} {l : List AK.Ev} {k m q : Nat} {v5 v6 : Value} {th : List AK.Ed} (h : ARel w n l k m q v5 v6 th wr) (hb : Below wr.heap.size wr w') : ARel w n l k m q v5 v6 th w' :=
  ⟨h.f.ext hb, own_chg h.row (Chg.of_below hb) (fun j hj => by have := own_lt h.row hj; omega), h.own⟩
/-- Not asked: the answers stay. -/
theorem ARel.with_f {w wr w2 w' : World} {n : Int} {l : List AK.Ev} {k m q m' : Nat} {v5 v6 v5' : Value} {th th' : List AK.Ed} {e : AK.Ev} {S : Nat → Prop} (h : ARel w n l k m q v5 v6 th wr) (he : l[k]? = some e) (hw : e.w ≠ 3) (hf : FRel w n l (k + 1) m' v5' th' w') (b2 : Below wr.heap.size wr w2) (hc : Chg S w2 w') (hS : ∀ j, S j → v5.ownBlock = some j) :
    ARel w n l (k + 1) m' q v5' v6 th' w' := by
  have h2 := h.ext b2
  refine ⟨hf, ?_, h.own⟩
  rw [AK.asked_same he hw]
  exact own_chg h2.row hc (fun j hj hs => own_neq h2.row h2.f.row (by decide) hj (hS j hs))
theorem ARel.ask {w wr w2 w' : World} {n : Int} {l : List AK.Ev} {k m q g c : Nat} {v5 v6 : Value} {th : List AK.Ed} {e : AK.Ev} {x : Bool} (h : ARel w n l k m q v5 v6 th wr) (he : l[k]? = some e) (hw : e.w = 3) (hx : x = AK.ansAt l k) (b2 : Below wr.heap.size wr w2)
    (ho : w'.ownsRow 0 4 1 (.slice (some ⟨g, 0, none⟩) (q + 1) c) (q + 1) ((AK.asked l 0 k).map Value.bool ++ [.bool x])) (hc : Chg (fun j => v6.ownBlock = some j) w2 w') (hat : v6.ownBlock = some g ∨ g = w2.heap.size) :
    ARel w n l (k + 1) m (q + 1) v5 (.slice (some ⟨g, 0, none⟩) (q + 1) c) th w' := by
  have h2 := h.ext b2
  refine ⟨⟨(h2.f.ask he hw).ok, h2.f.len, own_chg h2.f.row hc (fun j hj hs => own_neq h2.f.row h2.row (by decide) hj hs), h2.f.bel.trans (hc.below h2.f.bel.size (fun j _ hj => h.own j hj)), h2.f.own⟩, ?_, fun j hj => ?_⟩
  · rw [AK.asked_more he hw, ← hx, List.map_append]; exact ho
  · simp [Value.ownBlock] at hj; subst hj
    rcases hat with hat | hat
    · exact h.own _ hat
    · rw [hat]; exact h2.f.bel.size
def RAnsPost (w : World) (l : List AK.Ev) (e : Ending) (w' : World) : Prop := ∃ (A : Option Addr) (q c : Nat), e = .returned (.slice A q c) ∧ q ≤ 120 ∧ w'.ownsRow 0 4 1 (.slice A q c) q ((AK.answers l).map Value.bool) ∧ Below w.heap.size w w'
set_option maxHeartbeats 4000000 in
set_option maxRecDepth 100000 in
theorem ranswers_any (w : World) (n : Nat) (A : Option Addr) (len c : Nat) (l : List AK.Ev) (hl : l.length = len) (h : EvsAt w A l) (hg : AK.Good (n : Int) l) :
    Calls Tryd.prog 34 #[.int .i64 n, .slice A len c] w (RAnsPost w l) := by
  have H := Lib.hid h
  have HL := Lib.hid hl
  have HGD := Lib.hid hg
  have hn1 : 1 ≤ n := by have := hg.1; omega
  have hn2 : n ≤ 60 := by have := hg.2.1; omega
  have hl120 : len ≤ 120 := by rw [← hl]; exact hg.2.2.1
  clear h hl hg
  go_enter Tryd.func34, Tryd.ntmps34
  go_wp2
  go_loopw [5, 6, 7] (fun v5 v6 v7 wr => ∃ (k m q : Nat) (A5 : Option Addr) (c5 : Nat) (A6 : Option Addr) (c6 : Nat) (th : List AK.Ed), k ≤ len ∧ m ≤ k ∧ q ≤ k ∧ v7 = .int .i64 k ∧ v5 = .slice A5 m c5 ∧ v6 = .slice A6 q c6 ∧ Hid (ARel w n l k m q (.slice A5 m c5) (.slice A6 q c6) th wr)) (fun _ _ v7 _ => len - (intOf v7).toNat)
  case atStart => exact ⟨0, 0, 0, none, 0, none, 0, [], by omega, by omega, by omega, rfl, rfl, rfl, FRel.zero _ _ _, World.ownsRow_nil _ _ _ _, fun j hj => by simp [Value.ownBlock] at hj⟩
  case round =>
    obtain ⟨k, m, q, A5, c5, A6, c6, th, hk, hmk, hqk, rfl, rfl, rfl, HR⟩ := hrel
    by_cases hlt : k < len
    · obtain ⟨e, he⟩ : ∃ e, l[k]? = some e := ⟨_, List.getElem?_eq_getElem (by have := HL.out; omega)⟩
      have HE := Lib.hid he
      have HB := Lib.hid (HGD.out.2.2.2 k e he)
      rcases (H.out.ext (HR.out.f.bel)) with h0 | ⟨b, off, rfl, hbl, hev⟩
      · rw [h0] at he; simp at he
      obtain ⟨e1, e2, e3⟩ := hev k e he
      obtain ⟨ew, ea, eb⟩ := e
      simp only at e1 e2 e3
      obtain ⟨r1, r2, r3, r4, r5, r6, r7, r8⟩ := AK.bad_inv HB.out
      simp only at r1 r2 r3 r4 r5 r6
      have R7 := Lib.hid r7
      have R8 := Lib.hid r8
      obtain ⟨ea, rfl⟩ := Int.eq_ofNat_of_zero_le r3
      obtain ⟨eb, rfl⟩ := Int.eq_ofNat_of_zero_le r5
      have z0 : (0 : Int) ≤ (k : Int) := by omega
      have z1 : (k : Int) < (len : Int) := by omega
      have b1 := (Below.refl wr.heap.size wr).alloc (Nat.le_refl _) (.cells #[.int .i64 ew, .int .i64 ea, .int .i64 eb] 138)
      have HF1 := Lib.hid (HR.out.ext b1)
      have DD := Lib.hid (Blk.new wr 138 #[.int .i64 ew, .int .i64 ea, .int .i64 eb])
      clear hev he b1 HR r7 r8
      go_upto_region 7 with fail
      generalize wr.alloc (.cells #[.int .i64 ew, .int .i64 ea, .int .i64 eb] 138) = w1 at HF1 DD ⊢
      have d0 : w1.cell? ⟨wr.heap.size, 0, none⟩ = some (.int .i64 ew) := DD.out.cell 0
      have d1 : w1.cell? ⟨wr.heap.size, 1, none⟩ = some (.int .i64 ea) := DD.out.cell 1
      have d2 : w1.cell? ⟨wr.heap.size, 2, none⟩ = some (.int .i64 eb) := DD.out.cell 2
      obtain ⟨he1, he2, he3⟩ := HF1.out.f.eds
      unfold maxLen at he3
      have HED := Lib.hid he1
      clear he1
      by_cases hw1 : ew = 1
      · have W1 := Lib.hid hw1
        subst hw1
        go_wp2_with fail
        refine (rof_any _ ea eb).mono ?_
        rintro e w3 ⟨rfl, hb3⟩
        have B3 := Lib.hid hb3
        have HF3 := Lib.hid (HF1.out.f.ext hb3)
        clear hb3
        go_wp2_with (at_builtin; refine wpList_pushS _ rfl (.tmp 41) (.tmp 47) 89 rfl 100 _ 2 16 Tryd.underlying89 infoEdge rfl (by decide) (.slice A5 m c5) m _ rfl (HF3.out.row.alloc _) ⟨by omega, by omega⟩ (edC (AK.ek ea eb)) w3.heap.size rfl rfl (news_cells rfl _ _) (by simp [edC, Value.oneCell']) ?_; intro g5 c5' w5 ho5 hc5 hat5 _; have HF5 := Lib.hid (HF1.out.with_f HE.out (by simp) (HF1.out.f.add HE.out HB.out rfl (B3.out.alloc B3.out.size _) ho5 hc5 hat5) (B3.out.alloc B3.out.size _) hc5 (fun _ h => h)); clear ho5 hc5 hat5)
        go_roundw
        case rel => exact ⟨k + 1, m + 1, q, _, _, A6, c6, _, by omega, by omega, by omega, by go_num, rfl, rfl, HF5.out⟩
        case measure => simp [intOf]; omega
      by_cases hw2 : ew = 2
      · have hw1' : (ew == 1) = false := by simpa using hw1
        have W2 := Lib.hid hw2
        subst hw2
        have HT : Hid (AK.there (l.take k) (AK.ek ea eb) = true) := R8.out rfl
        clear hw1
        go_wp2_with fail
        refine (place_any _ A5 m c5 th ea eb HF1.out.f.len (by omega) HED.out).mono ?_
        rintro e w2 ⟨rfl, hb2⟩
        have HF2 := Lib.hid (HF1.out.ext hb2)
        have HED2 := Lib.hid (HED.out.ext hb2)
        clear hb2 d0 d1 d2
        obtain ⟨o, ho⟩ : ∃ o, RF.place th (AK.ek ea eb) = o := ⟨_, rfl⟩
        rw [ho]
        have HO := Lib.hid ho
        clear ho
        cases o with
        | none => exact absurd ((HF2.out.f.ok.mem _).2 HT.out) (RF.place_mem.1 HO.out)
        | some i =>
          have hpl : RF.placeV (some i) = (i : Int) := rfl
          have HI := Lib.hid (RF.place_get HO.out)
          have him : i < m := by have := (List.getElem?_eq_some_iff.1 HI.out).1; have := HF2.out.f.len; omega
          rw [hpl]
          clear hpl
          go_wp2_with fail
          refine (rout_any w2 A5 m c5 th i HF2.out.f.len (by omega) he2 (by unfold maxLen; exact he3) him HED2.out).mono ?_
          intro e w3 ho
          have hb3 := ho
          obtain ⟨_, _, _, _, hb3, _⟩ := hb3
          obtain ⟨A8, c8, rfl, hf3⟩ := HF2.out.f.drop HE.out HB.out rfl HI.out ho
          have HF3 := Lib.hid (HF2.out.with_f HE.out (by simp) hf3 (Below.refl _ _) (Chg.new hb3 (fun _ => False)) (fun _ h => h.elim))
          clear ho hf3 hb3
          go_wp2
          go_roundw
          case rel => exact ⟨k + 1, m - 1, q, A8, c8, A6, c6, _, by omega, by omega, by omega, by go_num, rfl, rfl, HF3.out⟩
          case measure => simp [intOf]; omega
      · have hw3 : ew = 3 := by omega
        subst hw3
        clear hw1 hw2
        have HIN : Hid (Inn n th) := HF1.out.f.ok.inn
        have hen : ea < n := by omega
        have hbn : eb < n := by omega
        go_wp2_with fail
        refine (parts_any _ A5 n m c5 th HF1.out.f.len hn1 (by omega) (by omega) HED.out HIN.out).mono ?_
        rintro e w2 ⟨p, gp, cp, rfl, hrow, hparts, hb2, hgp⟩
        unfold NRow at hrow
        have HF2 := Lib.hid (HF1.out.ext hb2)
        have B2 := Lib.hid hb2
        have HD2 := Lib.hid (DD.out.chg (Chg.of_below hb2) (by have := DD.out.lt; omega))
        obtain ⟨x, hx⟩ : ∃ x, p[ea]? = some x := ⟨_, List.getElem?_eq_getElem (by rw [hparts.len]; exact hen)⟩
        obtain ⟨y, hy⟩ : ∃ y, p[eb]? = some y := ⟨_, List.getElem?_eq_getElem (by rw [hparts.len]; exact hbn)⟩
        have g1 : w2.cell? ⟨wr.heap.size, 1, none⟩ = some (.int .i64 ea) := HD2.out.cell 1
        have g2 : w2.cell? ⟨wr.heap.size, 2, none⟩ = some (.int .i64 eb) := HD2.out.cell 2
        have g3 : w2.cell? ⟨gp, ea, none⟩ = some (.int .i64 (x : Nat)) := (World.ownsRow.cellAt hrow ea (by omega)).trans (natv_get hx)
        have g4 : w2.cell? ⟨gp, eb, none⟩ = some (.int .i64 (y : Nat)) := (World.ownsRow.cellAt hrow eb (by omega)).trans (natv_get hy)
        have HROW := Lib.hid hrow
        have HX := Lib.hid hx
        have HY := Lib.hid hy
        have HANS : Hid (decide (x = y) = AK.ansAt l k) := by
          have h1 := hparts.rel hx hy
          have h2 := AK.ans_tells HGD.out HE.out rfl HF1.out.f.ok
          simp only [Int.toNat_natCast] at h2
          unfold Hid
          rw [Bool.eq_iff_iff, decide_eq_true_eq, h1, h2]; rfl
        have z2 : (ea : Int) < (n : Int) := by omega
        have z3 : (eb : Int) < (n : Int) := by omega
        obtain ⟨bb, hbb⟩ : ∃ bb, (((x : Nat) : Int) == ((y : Nat) : Int)) = bb := ⟨_, rfl⟩
        have HBB : Hid (bb = AK.ansAt l k) := by rw [← HANS.out, ← hbb]; simp [Hid, Int.natCast_inj, BEq.beq]
        clear hb2 hrow hparts hx hy d0 d1 d2 r1 r2 r4 r6
        go_wp2
        go_region_held3 (fun w' => w'.cell? ⟨wr.heap.size, 1, none⟩ = some (.int .i64 ea) ∧ w'.cell? ⟨wr.heap.size, 2, none⟩ = some (.int .i64 eb) ∧ w'.cell? ⟨gp, ea, none⟩ = some (.int .i64 (x : Nat)) ∧ w'.cell? ⟨gp, eb, none⟩ = some (.int .i64 (y : Nat))) (go_keep)
          (go_loud (refine step_push _ (by rfl) (.tmp 25) (.tmp 37) 72 (by rfl) 4 (.bool false) 1 Tryd.underlying72 infoBoolR (by rfl) (.slice A6 q c6) q _ (by rfl) (HF2.out.row.alloc _).drew ⟨by omega, by omega⟩ (.bool bb) w2.heap.size (by rfl) (cell_new1 rfl _ _) (by rfl) ?_; intro g9 c9 w9 ho9 hc9 hg9; have HN := Lib.hid (HF1.out.ask HE.out rfl HBB.out ((B2.out.alloc B2.out.size _).drew) ho9 hc9 hg9); have p1 : w9.cell? ⟨wr.heap.size, 1, none⟩ = some (.int .i64 ea) := (((HD2.out.alloc _).drew).chg hc9 (fun hk => own_ne HF2.out.row HD2.out (by decide) hk)).cell 1; have p2 : w9.cell? ⟨wr.heap.size, 2, none⟩ = some (.int .i64 eb) := (((HD2.out.alloc _).drew).chg hc9 (fun hk => own_ne HF2.out.row HD2.out (by decide) hk)).cell 2; have hr9 := own_chg ((HROW.out.alloc _).drew) hc9 (fun j hj hs => own_neq HROW.out HF2.out.row (by decide) hj hs); have p3 : w9.cell? ⟨gp, ea, none⟩ = some (.int .i64 (x : Nat)) := (World.ownsRow.cellAt hr9 ea (by omega)).trans (natv_get HX.out); have p4 : w9.cell? ⟨gp, eb, none⟩ = some (.int .i64 (y : Nat)) := (World.ownsRow.cellAt hr9 eb (by omega)).trans (natv_get HY.out); clear ho9 hc9 hg9 hr9))
        go_wp2
        go_roundw
        case rel => exact ⟨k + 1, m, q + 1, A5, c5, _, _, th, by omega, by omega, by omega, by go_num, rfl, rfl, HN.out⟩
        case measure => simp [intOf]; omega
    · obtain rfl : k = len := by omega
      go_wp2
      go_ret
      exact ⟨A6, q, c6, rfl, by omega, by have := HR.out.row; rwa [← HL.out] at this, HR.out.f.bel⟩
end Go.Proofs.YtenjblonepegfaaDoor

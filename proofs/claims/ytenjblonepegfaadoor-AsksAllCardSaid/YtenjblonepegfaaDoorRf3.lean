/-
  The references' fault of events (EventsFault). Condition: the events lie in memory as 'EvsAt' says.
-/
import Derived.Test.YtenjblonepegfaaDoorRf1
import Derived.Test.YtenjblonepegfaaDoorTk
namespace Go.Proofs.YtenjblonepegfaaDoor
open Go Go.RowKit
set_option linter.unusedVariables false

structure FRel (w : World) (n : Int) (l : List AK.Ev) (k m : Nat) (v : Value) (th : List AK.Ed) (wr : World) : Prop where
  ok : AK.TOk n l k th
  len : th.length = m
  row : wr.ownsRow 0 100 2 v m (rowsOf edC th)
  bel : Below w.heap.size w wr
  own : ∀ j, v.ownBlock = some j → w.heap.size ≤ j
theorem FRel.zero (w : World) (n : Int) (l : List AK.Ev) : FRel w n l 0 0 (.slice none 0 0) [] w := ⟨AK.TOk.zero n l, rfl, World.ownsRow_nil _ _ _ _, Below.refl _ _, fun _ h => by simp [Value.ownBlock] at h⟩
theorem FRel.ext {w wr w' : World} {n : Int} {l : List AK.Ev} {k m : Nat} {v : Value} {th : List AK.Ed} (h : FRel w n l k m v th wr) (hb : Below wr.heap.size wr w') : FRel w n l k m v th w' :=
  ⟨h.ok, h.len, own_chg h.row (Chg.of_below hb) (fun j hj => by have := own_lt h.row hj; omega), h.bel.trans (hb.mono h.bel.size), h.own⟩
theorem FRel.eds {w wr : World} {n : Int} {l : List AK.Ev} {k m c : Nat} {A : Option Addr} {th : List AK.Ed} (h : FRel w n l k m (.slice A m c) th wr) : EdsAt wr A th ∧ m ≤ c ∧ c ≤ maxLen := by
  have hr := h.row
  have := DRow.eds (l := th) (by unfold DRow; rw [h.len]; exact hr) h.len
  exact ⟨this.1, this.2, own_capmax hr⟩
theorem FRel.ask {w wr : World} {n : Int} {l : List AK.Ev} {k m : Nat} {v : Value} {th : List AK.Ed} {e : AK.Ev} (h : FRel w n l k m v th wr) (he : l[k]? = some e) (hw : e.w = 3) : FRel w n l (k + 1) m v th wr := ⟨h.ok.ask he hw, h.len, h.row, h.bel, h.own⟩
theorem FRel.drop {w wr w' : World} {n : Int} {l : List AK.Ev} {k m i : Nat} {v : Value} {th : List AK.Ed} {e : AK.Ev} {x : Ending} (h : FRel w n l k m v th wr) (he : l[k]? = some e) (hb : AK.bad n (AK.there (l.take k)) e = none) (hw : e.w = 2) (hi : th[i]? = some e.ed) (ho : OutPost wr th i x w') :
    ∃ (A : Option Addr) (c : Nat), x = .returned (.slice A (m - 1) c) ∧ FRel w n l (k + 1) (m - 1) (.slice A (m - 1) c) (th.eraseIdx i) w' := by
  obtain ⟨A, c, rfl, hr, hb2, hn⟩ := ho
  have hlt : i < th.length := (List.getElem?_eq_some_iff.1 hi).1
  have hl : (th.eraseIdx i).length = m - 1 := by rw [List.length_eraseIdx, if_pos hlt, h.len]
  unfold DRow at hr
  rw [hl] at hr hn ⊢
  exact ⟨A, c, rfl, h.ok.drop he hb hw hi, hl, hr, h.bel.trans (hb2.mono h.bel.size), fun j hj => Nat.le_trans h.bel.size (hn j hj)⟩
theorem FRel.add {w wr w2 w' : World} {n : Int} {l : List AK.Ev} {k m g c : Nat} {v : Value} {th : List AK.Ed} {e : AK.Ev} (h : FRel w n l k m v th wr) (he : l[k]? = some e) (hb : AK.bad n (AK.there (l.take k)) e = none) (hw : e.w = 1) (b2 : Below wr.heap.size wr w2)
    (ho : w'.ownsRow 0 100 2 (.slice (some ⟨g, 0, none⟩) (m + 1) c) (m + 1) (rowsOf edC th ++ edC e.ed)) (hc : Chg (fun j => v.ownBlock = some j) w2 w') (hat : v.ownBlock = some g ∨ g = w2.heap.size) :
    FRel w n l (k + 1) (m + 1) (.slice (some ⟨g, 0, none⟩) (m + 1) c) (th ++ [e.ed]) w' := by
  have h2 := h.ext b2
  refine ⟨h.ok.add he hb hw, by simp [h.len], by rw [rowsOf_app]; simpa [rowsOf] using ho, h2.bel.trans (hc.below h2.bel.size (fun j _ hj => h.own j hj)), fun j hj => ?_⟩
  simp [Value.ownBlock] at hj; subst hj
  rcases hat with hat | hat
  · exact h.own _ hat
  · rw [hat]; exact h2.bel.size
def EfPost (w : World) (n : Int) (l : List AK.Ev) (e : Ending) (w' : World) : Prop := e = .returned (.tuple #[.int .i64 (AK.chk n l).1, .int .i64 ((AK.chk n l).2.getD 0)]) ∧ Below w.heap.size w w'
theorem EfPost.mk {w w' : World} {n i x : Int} {l : List AK.Ev} {o : Option Int} (h : AK.chk n l = (i, o)) (hx : o.getD 0 = x) (hb : Below w.heap.size w w') : EfPost w n l (.returned (.tuple #[.int .i64 i, .int .i64 x])) w' := ⟨by rw [h, hx], hb⟩
set_option maxHeartbeats 4000000 in
set_option maxRecDepth 100000 in
theorem efault_any (w : World) (n : Int) (A : Option Addr) (len c : Nat) (l : List AK.Ev) (hl : l.length = len) (hlm : len ≤ 9223372036854775807) (h : EvsAt w A l) :
    Calls Tryd.prog 32 #[.int .i64 n, .slice A len c] w (EfPost w n l) := by
  have H := Lib.hid h
  have HL := Lib.hid hl
  clear h hl
  by_cases h12 : n < 1 ∨ 60 < n
  · have hp : Hid (AK.chk n l = (0, some 1)) := by unfold Hid AK.chk; rw [if_pos h12]
    have hn : nodesF n = 1 := by unfold nodesF; rw [if_pos h12]
    clear h12
    go_enter Tryd.func32, Tryd.ntmps32
    go_wp2_with fail
    refine (nodesFault_any w n).mono ?_
    rintro e w' ⟨rfl, rfl⟩
    rw [hn]
    go_wp2
    go_ret2
    exact EfPost.mk hp.out rfl (Below.refl _ _)
  have hn : nodesF n = 0 := by unfold nodesF; rw [if_neg h12]
  have h1 : 1 ≤ n := by omega
  have h2 : n ≤ 60 := by omega
  clear h12
  by_cases h3 : 120 < len
  · have hp : Hid (AK.chk n l = (0, some 3)) := by have := HL.out; unfold Hid AK.chk; rw [if_neg (by omega), if_pos (by omega)]
    go_enter Tryd.func32, Tryd.ntmps32
    go_wp2_with fail
    refine (nodesFault_any w n).mono ?_
    rintro e w' ⟨rfl, rfl⟩
    rw [hn]
    go_wp2
    go_ret2
    exact EfPost.mk hp.out rfl (Below.refl _ _)
  have HN := Lib.hid hn
  clear hn
  go_enter Tryd.func32, Tryd.ntmps32
  go_wp2_with fail
  refine (nodesFault_any w n).mono ?_
  rintro e w' ⟨rfl, rfl⟩
  rw [HN.out]
  go_wp2
  go_loopw [7, 8] (fun v7 v8 wr => ∃ (k m : Nat) (A7 : Option Addr) (c7 : Nat) (th : List AK.Ed), k ≤ len ∧ m ≤ k ∧ v8 = .int .i64 k ∧ v7 = .slice A7 m c7 ∧ Hid (AK.At n l k ∧ FRel w n l k m (.slice A7 m c7) th wr)) (fun _ v8 _ => len - (intOf v8).toNat)
  case atStart => exact ⟨0, 0, none, 0, [], by omega, by omega, rfl, rfl, AK.At.start h1 h2 (by have := HL.out; omega), FRel.zero _ _ _⟩
  case round =>
    obtain ⟨k, m, A7, c7, th, hk, hmk, rfl, rfl, HR⟩ := hrel
    by_cases hlt : k < len
    · obtain ⟨e, he⟩ : ∃ e, l[k]? = some e := ⟨_, List.getElem?_eq_getElem (by have := HL.out; omega)⟩
      have HE := Lib.hid he
      rcases (H.out.ext (HR.out.2.bel)) with h0 | ⟨b, off, rfl, hbl, hev⟩
      · rw [h0] at he; simp at he
      obtain ⟨e1, e2, e3⟩ := hev k e he
      obtain ⟨ew, ea, eb⟩ := e
      simp only at e1 e2 e3
      have z0 : (0 : Int) ≤ (k : Int) := by omega
      have z1 : (k : Int) < (len : Int) := by omega
      have b1 := (Below.refl wr.heap.size wr).alloc (Nat.le_refl _) (.cells #[.int .i64 ew, .int .i64 ea, .int .i64 eb] 138)
      have HF1 := Lib.hid (HR.out.2.ext b1)
      have DD := Lib.hid (Blk.new wr 138 #[.int .i64 ew, .int .i64 ea, .int .i64 eb])
      have HAT := Lib.hid HR.out.1
      obtain ⟨ra, hra⟩ : ∃ ra, (decide (0 ≤ ea) && decide (ea < n)) = ra := ⟨_, rfl⟩
      obtain ⟨rb, hrb⟩ : ∃ rb, (decide (0 ≤ eb) && decide (eb < n)) = rb := ⟨_, rfl⟩
      have HRA := Lib.hid hra
      have HRB := Lib.hid hrb
      clear hev he b1 HR hra hrb
      go_wp2_with fail
      generalize wr.alloc (.cells #[.int .i64 ew, .int .i64 ea, .int .i64 eb] 138) = w1 at HF1 DD ⊢
      refine (node_ref w1 n ea ra HRA.out).mono ?_
      rintro e w' ⟨rfl, rfl⟩
      have d0 : w1.cell? ⟨wr.heap.size, 0, none⟩ = some (.int .i64 ew) := DD.out.cell 0
      have d1 : w1.cell? ⟨wr.heap.size, 1, none⟩ = some (.int .i64 ea) := DD.out.cell 1
      have d2 : w1.cell? ⟨wr.heap.size, 2, none⟩ = some (.int .i64 eb) := DD.out.cell 2
      go_wp2_with fail
      refine (node_ref w1 n eb rb HRB.out).mono ?_
      rintro e w' ⟨rfl, rfl⟩
      by_cases hr : (1 ≤ ew ∧ ew ≤ 3) ∧ ra = true ∧ rb = true
      · obtain ⟨⟨r1, r2⟩, rfl, rfl⟩ := hr
        have r3 := HRA.out
        have r4 := HRB.out
        rw [Bool.and_eq_true, decide_eq_true_eq, decide_eq_true_eq] at r3 r4
        have R3 := Lib.hid r3
        have R4 := Lib.hid r4
        clear r3 r4
        by_cases hw : ew = 3
        · subst hw
          have HB : Hid (AK.bad n (AK.there (l.take k)) ⟨3, ea, eb⟩ = none) := AK.bad_ask r1 r2 R3.out.1 R3.out.2 R4.out.1 R4.out.2 rfl
          have HNX := Lib.hid (HF1.out.ask HE.out rfl)
          clear r1 r2
          go_wp2
          go_roundw
          case rel => exact ⟨k + 1, m, _, _, th, by omega, by omega, by go_num, rfl, HAT.out.next HE.out HB.out, HNX.out⟩
          case measure => simp [intOf]; omega
        · have hw3 : (ew == 3) = false := by simpa using hw
          clear hw
          by_cases hab : ea = eb
          · have HB : Hid (AK.chk n l = ((k : Int), some 2)) := HAT.out.stop HE.out (AK.bad_shape r1 r2 R3.out.1 R3.out.2 R4.out.1 R4.out.2 (by simpa using hw3) hab)
            have hab' : (ea == eb) = true := by simpa using hab
            clear hab
            go_wp2
            go_ret2
            exact EfPost.mk HB.out rfl HF1.out.bel
          · have hab' : (ea == eb) = false := by simpa using hab
            have HAB := Lib.hid hab
            clear hab
            obtain ⟨he1, he2, he3⟩ := HF1.out.eds
            unfold maxLen at he3
            have HED := Lib.hid he1
            clear he1
            go_wp2_with fail
            refine (place_any w1 A7 m c7 th ea eb HF1.out.len (by omega) HED.out).mono ?_
            rintro e w2 ⟨rfl, hb2⟩
            have HF2 := Lib.hid (HF1.out.ext hb2)
            have HD2 := Lib.hid (DD.out.chg (Chg.of_below hb2) (by have := DD.out.lt; omega))
            have HED2 := Lib.hid (HED.out.ext hb2)
            have g0 : w2.cell? ⟨wr.heap.size, 0, none⟩ = some (.int .i64 ew) := HD2.out.cell 0
            have g1 : w2.cell? ⟨wr.heap.size, 1, none⟩ = some (.int .i64 ea) := HD2.out.cell 1
            have g2 : w2.cell? ⟨wr.heap.size, 2, none⟩ = some (.int .i64 eb) := HD2.out.cell 2
            clear hb2 d0 d1 d2 HF1 HED DD
            obtain ⟨o, ho⟩ : ∃ o, RF.place th (AK.ek ea eb) = o := ⟨_, rfl⟩
            rw [ho]
            have HO := Lib.hid ho
            clear ho
            cases o with
            | some i =>
              have hpl : RF.placeV (some i) = (i : Int) := rfl
              have HI := Lib.hid (RF.place_get HO.out)
              have HT : Hid (AK.there (l.take k) (AK.ek ea eb) = true) := (HF2.out.ok.mem _).1 (List.mem_of_getElem? HI.out)
              have him : i < m := by have := (List.getElem?_eq_some_iff.1 HI.out).1; have := HF2.out.len; omega
              rw [hpl]
              clear hpl
              by_cases hw1 : ew = 1
              · have HB : Hid (AK.chk n l = ((k : Int), some 6)) := HAT.out.stop HE.out (AK.bad_clash r1 r2 R3.out.1 R3.out.2 R4.out.1 R4.out.2 hw1 HAB.out HT.out)
                have hw1' : (ew == 1) = true := by simpa using hw1
                clear hw1
                go_wp2
                go_ret2
                exact EfPost.mk HB.out rfl HF2.out.bel
              · have hw2 : ew = 2 := by have : ew ≠ 3 := by simpa using hw3
                                        omega
                have hw1' : (ew == 1) = false := by simpa using hw1
                have hw2' : (ew == 2) = true := by simpa using hw2
                have W2 := Lib.hid hw2
                have HB : Hid (AK.bad n (AK.there (l.take k)) ⟨ew, ea, eb⟩ = none) := AK.bad_drop r1 r2 R3.out.1 R3.out.2 R4.out.1 R4.out.2 hw2 HAB.out HT.out
                clear hw1 hw2
                go_wp2_with fail
                refine (rout_any w2 A7 m c7 th i HF2.out.len (by omega) he2 (by unfold maxLen; exact he3) him HED2.out).mono ?_
                intro e w3 ho
                obtain ⟨A8, c8, rfl, hf3⟩ := HF2.out.drop HE.out HB.out W2.out HI.out ho
                have HF3 := Lib.hid hf3
                clear ho hf3
                go_wp2
                go_roundw
                case rel => exact ⟨k + 1, m - 1, A8, c8, _, by omega, by omega, by go_num, rfl, HAT.out.next HE.out HB.out, HF3.out⟩
                case measure => simp [intOf]; omega
            | none =>
              have hpl : RF.placeV none = -1 := rfl
              have HT : Hid (AK.there (l.take k) (AK.ek ea eb) = false) := by
                have h1 := RF.place_mem.1 HO.out
                cases hq : AK.there (l.take k) (AK.ek ea eb) with
                | false => rfl
                | true => exact absurd ((HF2.out.ok.mem _).2 hq) h1
              rw [hpl]
              clear hpl
              by_cases hw1 : ew = 1
              · have hw1' : (ew == 1) = true := by simpa using hw1
                have hw2' : (ew == 2) = false := by rw [beq_eq_false_iff_ne]; omega
                have W1 := Lib.hid hw1
                have HB : Hid (AK.bad n (AK.there (l.take k)) ⟨ew, ea, eb⟩ = none) := AK.bad_add r1 r2 R3.out.1 R3.out.2 R4.out.1 R4.out.2 hw1 HAB.out HT.out
                clear hw1
                go_wp2_with fail
                refine (rof_any w2 ea eb).mono ?_
                rintro e w3 ⟨rfl, hb3⟩
                have B3 := Lib.hid hb3
                have HF3 := Lib.hid (HF2.out.ext hb3)
                clear hb3
                go_wp2_with (at_builtin; refine wpList_pushS _ rfl (.tmp 92) (.tmp 98) 89 rfl 100 _ 2 16 Tryd.underlying89 infoEdge rfl (by decide) (.slice A7 m c7) m _ rfl (HF3.out.row.alloc _) ⟨by omega, by omega⟩ (edC (AK.ek ea eb)) w3.heap.size rfl rfl (news_cells rfl _ _) (by simp [edC, Value.oneCell']) ?_; intro g5 c5 w5 ho5 hc5 hat5 _; have HF5 := Lib.hid (HF2.out.add HE.out HB.out W1.out (B3.out.alloc B3.out.size _) ho5 hc5 hat5); clear ho5 hc5 hat5)
                go_roundw
                case rel => exact ⟨k + 1, m + 1, _, _, _, by omega, by omega, by go_num, rfl, HAT.out.next HE.out HB.out, HF5.out⟩
                case measure => simp [intOf]; omega
              · have hw2 : ew = 2 := by have : ew ≠ 3 := by simpa using hw3
                                        omega
                have hw1' : (ew == 1) = false := by simpa using hw1
                have hw2' : (ew == 2) = true := by simpa using hw2
                have HB : Hid (AK.chk n l = ((k : Int), some 4)) := HAT.out.stop HE.out (AK.bad_none r1 r2 R3.out.1 R3.out.2 R4.out.1 R4.out.2 hw2 HAB.out HT.out)
                clear hw1 hw2
                go_wp2
                go_ret2
                exact EfPost.mk HB.out rfl HF2.out.bel
      · have HB : Hid (AK.chk n l = ((k : Int), some 1)) := HAT.out.stop HE.out (AK.bad_range (by
            have h5 := HRA.out; have h6 := HRB.out
            rcases Bool.eq_false_or_eq_true ra with r | r
            · rcases Bool.eq_false_or_eq_true rb with r' | r'
              · have : ¬ (1 ≤ ew ∧ ew ≤ 3) := fun h => hr ⟨h, r, r'⟩
                omega
              · rw [r', Bool.and_eq_false_iff, decide_eq_false_iff_not, decide_eq_false_iff_not] at h6; omega
            · rw [r, Bool.and_eq_false_iff, decide_eq_false_iff_not, decide_eq_false_iff_not] at h5; omega))
        have hcase : ew < 1 ∨ (1 ≤ ew ∧ 3 < ew) ∨ (1 ≤ ew ∧ ew ≤ 3 ∧ ra = false) ∨ (1 ≤ ew ∧ ew ≤ 3 ∧ ra = true ∧ rb = false) := by
          by_cases q1 : ew < 1
          · exact .inl q1
          by_cases q2 : 3 < ew
          · exact .inr (.inl ⟨by omega, q2⟩)
          rcases Bool.eq_false_or_eq_true ra with r | r
          · rcases Bool.eq_false_or_eq_true rb with r' | r'
            · exact absurd ⟨⟨by omega, by omega⟩, r, r'⟩ hr
            · exact .inr (.inr (.inr ⟨by omega, by omega, r, r'⟩))
          · exact .inr (.inr (.inl ⟨by omega, by omega, r⟩))
        clear hr
        rcases hcase with q1 | ⟨q1, q2⟩ | ⟨q1, q2, rfl⟩ | ⟨q1, q2, rfl, rfl⟩
        all_goals
          go_wp2
          go_ret2
          exact EfPost.mk HB.out rfl HF1.out.bel
    · go_wp2
      go_ret2
      exact EfPost.mk (HR.out.1.end_ (by have := HL.out; omega)) rfl HR.out.2.bel
end Go.Proofs.YtenjblonepegfaaDoor

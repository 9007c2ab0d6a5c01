/-
  The references' spans (SpansOf). Condition: the events lie in memory as 'EvsAt' says; their numbers are nodes.
-/
import Derived.Test.YtenjblonepegfaaDoorTw
import Derived.Test.YtenjblonepegfaaDoorSp
import Derived.Test.YtenjblonepegfaaDoorInts
namespace Go.Proofs.YtenjblonepegfaaDoor
open Go Go.RowKit
set_option linter.unusedVariables false

theorem guardEd (x y : Operand) (xs ys : Array Value) (w : World) : (eqGuard .neq 100 x y (.agg xs) (.agg ys)).run Tryd.prog w = .ok () w := run_eqGuard_agg w .neq 100 x y xs ys (by kernel_rfl)
theorem neqEd (a b c d : Int) (w : World) : (binOp .neq 100 (.agg #[.int .i64 a, .int .i64 b]) (.agg #[.int .i64 c, .int .i64 d])).run Tryd.prog w = .ok (.bool (!((a == c) && (b == d)))) w := by
  have u3 := Tryd.underlying3
  have a3 := Tryd.isAgg3
  have z3 := Tryd.sizeOf3
  have hS : Tryd.prog.underlying 100 = some (.struct (Tryd.prog.fieldsOf 100)) := by kernel_rfl
  have hp : Tryd.prog.stoodInHeld 100 = false := by kernel_rfl
  rw [run_neq_struct, show (10000 : Nat) = 9999 + 1 from rfl, run_equalIn_agg w 9999 100 _ _ hS hp]
  simp only [Program.fieldsOf, Tryd.underlying100]
  go_simp
  by_cases h1 : a = c <;> by_cases h2 : b = d <;> simp [h1, h2]
theorem fstq {A B : Prop} (h : A ∧ B) : A := h.1
theorem rof_to {a b x1 x2 : Int} (h : AK.ek a b = (x1, x2)) (w : World) : Calls Tryd.prog 73 #[.int .i64 a, .int .i64 b] w fun e w' => e = .returned (.agg #[.int .i64 x1, .int .i64 x2]) ∧ Ext w w' := by
  have := rof_any w a b
  rw [h] at this
  exact this
structure SRel (w : World) (l : List AK.Ev) (k q : Nat) (v : Value) (L : List (Nat × Nat)) (wr : World) : Prop where
  sp : AK.IsSpans l k L
  len : L.length = q
  row : wr.ownsRow 0 143 2 v q (rowsOf twC L)
  bel : Below w.heap.size w wr
  own : ∀ j, v.ownBlock = some j → w.heap.size ≤ j
theorem SRel.ext {w wr w' : World} {l : List AK.Ev} {k q : Nat} {v : Value} {L : List (Nat × Nat)} (h : SRel w l k q v L wr) (hb : Below wr.heap.size wr w') : SRel w l k q v L w' :=
  ⟨h.sp, h.len, own_chg h.row (Chg.of_below hb) (fun j hj => by have := own_lt h.row hj; omega), h.bel.trans (hb.mono h.bel.size), h.own⟩
theorem SRel.more {w wr w2 w' : World} {l : List AK.Ev} {k q m g c : Nat} {v : Value} {L : List (Nat × Nat)} {e : AK.Ev} (h : SRel w l k q v L wr) (he : l[k]? = some e) (hw : e.w = 1) (hm : AK.IsEnd l k m) (b2 : Below wr.heap.size wr w2)
    (ho : w'.ownsRow 0 143 2 (.slice (some ⟨g, 0, none⟩) (q + 1) c) (q + 1) (rowsOf twC L ++ twC (k, m))) (hc : Chg (fun j => v.ownBlock = some j) w2 w') (hat : v.ownBlock = some g ∨ g = w2.heap.size) :
    SRel w l (k + 1) (q + 1) (.slice (some ⟨g, 0, none⟩) (q + 1) c) (L ++ [(k, m)]) w' := by
  have h2 := h.ext b2
  refine ⟨h.sp.more he hw hm, by simp [h.len], by rw [rowsOf_app]; simpa [rowsOf] using ho, h2.bel.trans (hc.below h2.bel.size (fun j _ hj => h.own j hj)), fun j hj => ?_⟩
  simp [Value.ownBlock] at hj; subst hj
  rcases hat with hat | hat
  · exact h.own _ hat
  · rw [hat]; exact h2.bel.size
def SpansPost (w : World) (l : List AK.Ev) (e : Ending) (w' : World) : Prop := ∃ (A : Option Addr) (q c : Nat) (L : List (Nat × Nat)), e = .returned (.slice A q c) ∧ SRel w l l.length q (.slice A q c) L w'
set_option maxHeartbeats 4000000 in
set_option maxRecDepth 100000 in
theorem rspans_any (w : World) (A : Option Addr) (len c : Nat) (l : List AK.Ev) (hl : l.length = len) (hl2 : len ≤ 120) (h : EvsAt w A l) :
    Calls Tryd.prog 35 #[.slice A len c] w (SpansPost w l) := by
  have H := Lib.hid h
  have HL := Lib.hid hl
  have hgd := guardEd
  have hne := neqEd
  clear h hl
  go_enter Tryd.func35, Tryd.ntmps35
  go_wp2
  go_loopw [3, 4] (fun v3 v4 wr => ∃ (k q : Nat) (A3 : Option Addr) (c3 : Nat) (L : List (Nat × Nat)), k ≤ len ∧ q ≤ k ∧ v4 = .int .i64 k ∧ v3 = .slice A3 q c3 ∧ Hid (SRel w l k q (.slice A3 q c3) L wr)) (fun _ v4 _ => len - (intOf v4).toNat)
  case atStart => exact ⟨0, 0, none, 0, [], by omega, by omega, rfl, rfl, AK.IsSpans.zero l, rfl, World.ownsRow_nil _ _ _ _, Below.refl _ _, fun j hj => by simp [Value.ownBlock] at hj⟩
  case round =>
    obtain ⟨k, q, A3, c3, L, hk, hqk, rfl, rfl, HR⟩ := hrel
    obtain ⟨w0, rfl⟩ : ∃ w0, w0 = wr := ⟨_, rfl⟩
    by_cases hlt : k < len
    · obtain ⟨e, he⟩ : ∃ e, l[k]? = some e := ⟨_, List.getElem?_eq_getElem (by have := HL.out; omega)⟩
      have HE := Lib.hid he
      rcases (H.out.ext (HR.out.bel)) with h0 | ⟨b, off, rfl, hbl, hev⟩
      · rw [h0] at he; simp at he
      obtain ⟨e1, e2, e3⟩ := hev k e he
      have HEV := Lib.hid hev
      obtain ⟨ew, ea, eb⟩ := e
      simp only at e1 e2 e3
      have z0 : (0 : Int) ≤ (k : Int) := by omega
      have z1 : (k : Int) < (len : Int) := by omega
      clear hev he
      by_cases hw1 : ew = 1
      · subst hw1
        obtain ⟨x1, x2, hx⟩ : ∃ x1 x2, AK.ek ea eb = (x1, x2) := ⟨_, _, rfl⟩
        have HX := Lib.hid hx
        have R1 := Lib.hid (rof_to hx)
        clear hx
        go_upto_block 2 with fail
        go_cut [5] (fun s5 wx => ∃ m : Nat, m ≤ 120 ∧ s5 = .int .i64 m ∧ Hid (AK.IsEnd l k m ∧ Below w0.heap.size w0 wx))
        case first =>
          go_wp2_with fail
          go_loopw [5] (fun v5 wx => ∃ j : Nat, k < j ∧ j ≤ len ∧ v5 = .int .i64 j ∧ Hid ((∀ i, k < i → i < j → ¬ AK.isDrop l i (AK.ek ea eb)) ∧ Below w0.heap.size w0 wx)) (fun v5 _ => len - (intOf v5).toNat)
          case atStart => exact ⟨k + 1, by omega, by omega, by go_num, fun i h1 h2 => by omega, Below.refl _ _⟩
          case round =>
            obtain ⟨j, hkj, hj, rfl, HJ⟩ := hrel
            by_cases hjl : j < len
            · obtain ⟨f, hf⟩ : ∃ f, l[j]? = some f := ⟨_, List.getElem?_eq_getElem (by have := HL.out; omega)⟩
              have HF := Lib.hid hf
              obtain ⟨f1, f2, f3⟩ := HEV.out j f hf
              obtain ⟨fw, fa, fb⟩ := f
              simp only at f1 f2 f3
              have hbw := HJ.out.2
              have f1 := (hbw.cell (p := ⟨b, off + j * 3, none⟩) hbl).trans f1
              have f2 := (hbw.cell (p := ⟨b, off + j * 3 + 1, none⟩) hbl).trans f2
              have f3 := (hbw.cell (p := ⟨b, off + j * 3 + 2, none⟩) hbl).trans f3
              have e2' := (hbw.cell (p := ⟨b, off + k * 3 + 1, none⟩) hbl).trans e2
              have e3' := (hbw.cell (p := ⟨b, off + k * 3 + 2, none⟩) hbl).trans e3
              have z2 : (0 : Int) ≤ (j : Int) := by omega
              have z3 : (j : Int) < (len : Int) := by omega
              have hbl' : b < _ := Nat.lt_of_lt_of_le hbl hbw.size
              clear hbw hf
              by_cases hw2 : fw = 2
              · have W2 := Lib.hid hw2
                have hw2' : (fw == 2) = true := by simpa using hw2
                subst hw2
                obtain ⟨y1, y2, hy⟩ : ∃ y1 y2, AK.ek fa fb = (y1, y2) := ⟨_, _, rfl⟩
                have HY := Lib.hid hy
                have R2 := Lib.hid (rof_to hy)
                have HC := Lib.hid (show ∀ w', Ext wr w' → Ext wr w' ∧ w'.cell? ⟨b, off + j * 3, none⟩ = some (.int .i64 2) ∧ w'.cell? ⟨b, off + j * 3 + 1, none⟩ = some (.int .i64 fa) ∧ w'.cell? ⟨b, off + j * 3 + 2, none⟩ = some (.int .i64 fb) ∧ w'.cell? ⟨b, off + k * 3 + 1, none⟩ = some (.int .i64 ea) ∧ w'.cell? ⟨b, off + k * 3 + 2, none⟩ = some (.int .i64 eb) from
                  fun w' hw => ⟨hw, (hw.cell (p := ⟨b, _, none⟩) hbl').trans f1, (hw.cell (p := ⟨b, _, none⟩) hbl').trans f2, (hw.cell (p := ⟨b, _, none⟩) hbl').trans f3, (hw.cell (p := ⟨b, _, none⟩) hbl').trans e2', (hw.cell (p := ⟨b, _, none⟩) hbl').trans e3'⟩)
                clear hy
                by_cases hxy : y1 = x1 ∧ y2 = x2
                · obtain ⟨rfl, rfl⟩ := hxy
                  have HEND : Hid (AK.IsEnd l k j) := ⟨_, HE.out, hkj, by have := HL.out; omega, fun i h1 h2 => HJ.out.1 i h1 h2, fun _ => ⟨_, HF.out, rfl, by show AK.ek fa fb = AK.ek ea eb; rw [HY.out, HX.out]⟩⟩
                  go_wp2
                  go_region_held3 (fun w' => Ext wr w' ∧ w'.cell? ⟨b, off + j * 3, none⟩ = some (.int .i64 2) ∧ w'.cell? ⟨b, off + j * 3 + 1, none⟩ = some (.int .i64 fa) ∧ w'.cell? ⟨b, off + j * 3 + 2, none⟩ = some (.int .i64 fb) ∧ w'.cell? ⟨b, off + k * 3 + 1, none⟩ = some (.int .i64 ea) ∧ w'.cell? ⟨b, off + k * 3 + 2, none⟩ = some (.int .i64 eb))
                    (exact HC.out _ (by first | exact Ext.drew _ | exact fstq (by assumption) | exact Ext.trans (fstq (by assumption)) (by assumption)))
                    (first
                      | (go_at_call_of 73 (Value.int .i64 fa); refine (R2.out _).mono ?_; rintro e w1 ⟨rfl, hx1⟩)
                      | (go_at_call_of 73 (Value.int .i64 ea); refine (R1.out _).mono ?_; rintro e w2 ⟨rfl, hx2⟩))
                  all_goals
                    go_wp2
                    go_meet
                    exact ⟨j, by omega, rfl, HEND.out, HJ.out.2.trans (Below.mono (fstq (by assumption)) HJ.out.2.size)⟩
                · have hq : ((y1 == x1) && (y2 == x2)) = false := by
                    rw [Bool.and_eq_false_iff, beq_eq_false_iff_ne, beq_eq_false_iff_ne]
                    by_cases h1 : y1 = x1
                    · exact .inr fun h2 => hxy ⟨h1, h2⟩
                    · exact .inl h1
                  have HXY := Lib.hid hxy
                  have HN : Hid (∀ i, k < i → i < j + 1 → ¬ AK.isDrop l i (AK.ek ea eb)) := fun i h1 h2 => by
                    by_cases hij : i = j
                    · subst hij; rintro ⟨g, g1, _, g3⟩; rw [HF.out] at g1; injection g1 with g1; subst g1
                      have g3' : AK.ek fa fb = AK.ek ea eb := g3
                      rw [HY.out, HX.out] at g3'
                      injection g3' with g4 g5
                      exact HXY.out ⟨g4, g5⟩
                    · exact HJ.out.1 i h1 (by omega)
                  clear hxy
                  go_wp2
                  go_region_held3 (fun w' => Ext wr w' ∧ w'.cell? ⟨b, off + j * 3, none⟩ = some (.int .i64 2) ∧ w'.cell? ⟨b, off + j * 3 + 1, none⟩ = some (.int .i64 fa) ∧ w'.cell? ⟨b, off + j * 3 + 2, none⟩ = some (.int .i64 fb) ∧ w'.cell? ⟨b, off + k * 3 + 1, none⟩ = some (.int .i64 ea) ∧ w'.cell? ⟨b, off + k * 3 + 2, none⟩ = some (.int .i64 eb))
                    (exact HC.out _ (by first | exact Ext.drew _ | exact fstq (by assumption) | exact Ext.trans (fstq (by assumption)) (by assumption)))
                    (first
                      | (go_at_call_of 73 (Value.int .i64 fa); refine (R2.out _).mono ?_; rintro e w1 ⟨rfl, hx1⟩)
                      | (go_at_call_of 73 (Value.int .i64 ea); refine (R1.out _).mono ?_; rintro e w2 ⟨rfl, hx2⟩))
                  all_goals
                    go_wp2
                    go_roundw
                  all_goals
                    first
                      | (simp [intOf]; omega)
                      | exact ⟨j + 1, by omega, by omega, by go_num, HN.out, HJ.out.2.trans (Below.mono (fstq (by assumption)) HJ.out.2.size)⟩
              · have hw2' : (fw != 2) = true := by simpa using hw2
                have W2 := Lib.hid hw2
                have HN : Hid (∀ i, k < i → i < j + 1 → ¬ AK.isDrop l i (AK.ek ea eb)) := fun i h1 h2 => by
                  by_cases hij : i = j
                  · subst hij; rintro ⟨g, g1, g2, _⟩; rw [HF.out] at g1; injection g1 with g1; subst g1; exact W2.out g2
                  · exact HJ.out.1 i h1 (by omega)
                clear hw2
                go_wp2
                go_quiet (fail)
                have HB2 := Lib.hid (below_drewN' HJ.out.2 nq)
                go_wp2
                go_roundw
                case rel => exact ⟨j + 1, by omega, by omega, by go_num, HN.out, HB2.out⟩
                case measure => simp [intOf]; omega
            · have hjl' : ¬ (j : Int) < (len : Int) := by omega
              have HEND : Hid (AK.IsEnd l k j) := ⟨_, HE.out, hkj, by have := HL.out; omega, fun i h1 h2 => HJ.out.1 i h1 h2, fun h => by have := HL.out; omega⟩
              go_wp2
              go_quiet (fail)
              have HB2 := Lib.hid (below_drewN' HJ.out.2 nq)
              go_wp2
              go_meet
              exact ⟨j, by omega, rfl, HEND.out, HB2.out⟩
        case rest =>
          obtain ⟨m, hm, rfl, HM⟩ := hcut
          have HF2 := Lib.hid (HR.out.ext HM.out.2)
          go_wp2_with (at_builtin; refine wpList_pushS _ rfl (.tmp 59) (.tmp 63) 73 rfl 143 _ 2 16 Tryd.underlying73 infoTwo rfl (by decide) (.slice A3 q c3) q _ rfl (HF2.out.row.alloc _) ⟨by omega, by omega⟩ (twC (k, m)) wc.heap.size rfl rfl (news_cells rfl _ _) (by simp [twC, Value.oneCell']) ?_; intro g5 c5 w5 ho5 hc5 hat5 _; have HF5 := Lib.hid (HR.out.more HE.out rfl HM.out.1 (HM.out.2.alloc HM.out.2.size _) ho5 hc5 hat5); clear ho5 hc5 hat5)
          go_roundw
          case rel => exact ⟨k + 1, q + 1, _, _, _, by omega, by omega, by go_num, rfl, HF5.out⟩
          case measure => simp [intOf]; omega
      · have hw1' : (ew != 1) = true := by simpa using hw1
        have HN : Hid (SRel w l (k + 1) q (.slice A3 q c3) L w0) := ⟨HR.out.sp.skip HE.out hw1, HR.out.len, HR.out.row, HR.out.bel, HR.out.own⟩
        clear hw1
        go_wp2
        go_roundw
        case rel => exact ⟨k + 1, q, A3, c3, L, by omega, by omega, by go_num, rfl, HN.out⟩
        case measure => simp [intOf]; omega
    · obtain rfl : k = len := by omega
      go_wp2
      go_ret
      exact ⟨A3, q, c3, L, rfl, by rw [HL.out]; exact HR.out⟩
end Go.Proofs.YtenjblonepegfaaDoor

/-
  Walk of the references' Put. Condition: the edges lie in memory as 'EdsAt' says.
  footbridgesame.Error of an error by its number. Condition: the package variable errors.errorType holds the handle of the type 'error'.
-/
import Derived.Test.YtlcnoihmhaaekaaGreatDoorBs14
import Derived.Test.YtlcnoihmhaaekaaGreatDoorBs17
import Derived.Test.YtlcnoihmhaaekaaGreatDoorGpPk2
import Derived.Test.YtlcnoihmhaaekaaGreatDoorTd2
import Derived.Test.YtlcnoihmhaaekaaGreatDoorArg0
import Derived.Test.YtlcnoihmhaaekaaGreatDoorGpPk6
import Derived.Test.YtlcnoihmhaaekaaGreatDoorBs15
import Derived.Test.YtlcnoihmhaaekaaGreatDoorInts
namespace Go.Proofs.YtlcnoihmhaaekaaGreatDoor
open Go Go.RowKit
set_option linter.unusedVariables false

/-- The list's own comes next. -/
def PutC (b : Bool) (e x : AK.Ed) : Prop := b = true ∨ ¬ ltE e x
theorem snoc_len {α : Type} (d : List α) (x : α) : (d ++ [x]).length = d.length + 1 := by rw [List.length_append]; rfl
structure PutSt (w : World) (l : List AK.Ed) (e : AK.Ed) (B k : Nat) (b : Bool) (d : List AK.Ed) (vO : Value) (wr : World) : Prop where
  row : DRow wr vO d
  len : d.length = k + (if b then 1 else 0)
  eq : d ++ (if b then l.drop k else putE e (l.drop k)) = putE e l
  ext : Ext w wr
  new : ∀ j, vO.ownBlock = some j → w.heap.size ≤ j
  blk : Blk wr B 87 #[.int .i64 e.1, .int .i64 e.2]
  ne : vO.ownBlock ≠ some B
  nB : w.heap.size ≤ B
section
variable {w wr w' : World} {l d : List AK.Ed} {e x : AK.Ed} {B k g c : Nat} {b : Bool} {vO : Value} {o : Obj}
theorem PutSt.moved (h : PutSt w l e B k b d vO wr) (hx : Ext wr w') : PutSt w l e B k b d vO w' :=
  ⟨own_chg h.row (Chg.of_below hx) (fun k hk => by have := own_lt h.row hk; omega), h.len, h.eq, Ext.trans h.ext hx, h.new, h.blk.chg (Chg.of_below hx) (by have := h.blk.lt; omega), h.ne, h.nB⟩
theorem PutSt.push (h : PutSt w l e B k b d vO wr) {k' : Nat} {b' : Bool} (ho : w'.ownsRow 0 87 2 (.slice (some ⟨g, 0, none⟩) (d.length + 1) c) (d.length + 1) (rowsOf edC d ++ edC x)) (hc : Chg (fun k => vO.ownBlock = some k) wr w') (hat : vO.ownBlock = some g ∨ g = wr.heap.size)
    (hlen : d.length + 1 = k' + (if b' then 1 else 0)) (heq : (d ++ [x]) ++ (if b' then l.drop k' else putE e (l.drop k')) = putE e l) : PutSt w l e B k' b' (d ++ [x]) (.slice (some ⟨g, 0, none⟩) (d.length + 1) c) w' := by
  refine ⟨?_, by rw [List.length_append]; exact hlen, heq, ((Chg.of_below h.ext).trans hc (fun k _ hk => h.new k hk)).below (Nat.le_refl _) (fun _ _ h => h), fun j hj => ?_, h.blk.chg hc h.ne, fun q => ?_, h.nB⟩
  · unfold DRow
    rw [List.length_append, List.length_singleton, rowsOf_app]
    have : rowsOf edC [x] = edC x := by simp [rowsOf]
    rw [this]; exact ho
  · simp [Value.ownBlock] at hj
    subst hj
    rcases hat with q | q
    · exact h.new _ q
    · have := h.ext.size; omega
  · simp [Value.ownBlock] at q
    subst q
    rcases hat with q | q
    · exact h.ne q
    · have := h.blk.lt; omega
theorem PutSt.putE_ (h : PutSt w l e B k false d vO wr) (hx : l[k]? = some x) (hlt : ltE e x) (ho : w'.ownsRow 0 87 2 (.slice (some ⟨g, 0, none⟩) (d.length + 1) c) (d.length + 1) (rowsOf edC d ++ edC e)) (hc : Chg (fun k => vO.ownBlock = some k) wr w') (hat : vO.ownBlock = some g ∨ g = wr.heap.size) :
    PutSt w l e B k true (d ++ [e]) (.slice (some ⟨g, 0, none⟩) (d.length + 1) c) w' := by
  refine h.push ho hc hat (by have := h.len; simp at this ⊢; omega) ?_
  have h1 := h.eq
  simp only [Bool.false_eq_true, if_false] at h1
  rw [← h1]
  have hk : k < l.length := (List.getElem?_eq_some_iff.1 hx).1
  have hd : l.drop k = x :: l.drop (k + 1) := by rw [List.drop_eq_getElem_cons hk]; rw [List.getElem?_eq_getElem hk] at hx; injection hx with hx; rw [hx]
  simp only [if_true]
  rw [hd, putE, if_pos hlt]
  simp
theorem PutSt.putX (h : PutSt w l e B k b d vO wr) (hx : l[k]? = some x) (hlt : PutC b e x) (ho : w'.ownsRow 0 87 2 (.slice (some ⟨g, 0, none⟩) (d.length + 1) c) (d.length + 1) (rowsOf edC d ++ edC x)) (hc : Chg (fun k => vO.ownBlock = some k) wr w') (hat : vO.ownBlock = some g ∨ g = wr.heap.size) :
    PutSt w l e B (k + 1) b (d ++ [x]) (.slice (some ⟨g, 0, none⟩) (d.length + 1) c) w' := by
  refine h.push ho hc hat (by have := h.len; omega) ?_
  have h1 := h.eq
  rw [← h1]
  have hk : k < l.length := (List.getElem?_eq_some_iff.1 hx).1
  have hd : l.drop k = x :: l.drop (k + 1) := by rw [List.drop_eq_getElem_cons hk]; rw [List.getElem?_eq_getElem hk] at hx; injection hx with hx; rw [hx]
  cases b with
  | true => simp only [if_true]; rw [hd]; simp
  | false =>
    simp only [Bool.false_eq_true, if_false]
    rw [hd, putE, if_neg (Or.resolve_left hlt (by decide))]
    simp
theorem PutSt.last (h : PutSt w l e B l.length false d vO wr) (ho : w'.ownsRow 0 87 2 (.slice (some ⟨g, 0, none⟩) (d.length + 1) c) (d.length + 1) (rowsOf edC d ++ edC e)) (hc : Chg (fun k => vO.ownBlock = some k) wr w') (hat : vO.ownBlock = some g ∨ g = wr.heap.size) :
    PutSt w l e B l.length true (d ++ [e]) (.slice (some ⟨g, 0, none⟩) (d.length + 1) c) w' := by
  refine h.push ho hc hat (by have := h.len; simp at this ⊢; omega) ?_
  have h1 := h.eq
  simp only [Bool.false_eq_true, if_false] at h1
  rw [← h1]
  simp [putE]
end
def RpPost (w : World) (l : List AK.Ed) (e : AK.Ed) (ev : Ending) (w' : World) : Prop := ∃ A c, ev = .returned (.slice A (putE e l).length c) ∧ DRow w' (.slice A (putE e l).length c) (putE e l) ∧ Ext w w' ∧ ∀ j, (Value.slice A (putE e l).length c).ownBlock = some j → w.heap.size ≤ j
theorem PutSt.post {w wr : World} {l d : List AK.Ed} {e : AK.Ed} {B : Nat} {vO : Value} (h : PutSt w l e B l.length true d vO wr) : RpPost w l e (.returned vO) wr := by
  have h1 := h.eq
  simp only [if_true, List.drop_length, List.append_nil] at h1
  have h2 := h.row
  rw [h1] at h2
  have h3 := h2
  unfold DRow at h3
  obtain ⟨A, c, rfl, hc⟩ := own_slice3 h3
  exact ⟨A, c, rfl, h2, h.ext, h.new⟩
set_option maxHeartbeats 4000000 in
set_option maxRecDepth 100000 in
theorem rput_any (w : World) (A : Option Addr) (m c : Nat) (l : List AK.Ed) (a b : Int) (hl : l.length = m) (hm : m ≤ 100000) (h : EdsAt w A l) :
    Calls Tryz.prog 12 #[.slice A m c, .int .i64 a, .int .i64 b] w (RpPost w l (AK.ek a b)) := by
  have H := Lib.hid h
  have HL := Lib.hid hl
  clear h hl
  go_enter Tryz.func12, Tryz.ntmps12
  go_wp2_with fail
  refine (rof_any w a b).mono ?_
  rintro e w1 ⟨rfl, hb1⟩
  have hS := hb1.size
  obtain ⟨x, hx⟩ : ∃ x, x = AK.ek a b := ⟨_, rfl⟩
  have P0 : Hid (PutSt w l x w1.heap.size 0 false [] (.slice none 0 0) (w1.alloc (.cells #[.int .i64 x.1, .int .i64 x.2] 87))) :=
    ⟨World.ownsRow_nil _ _ _ _, rfl, by simp, Ext.trans hb1 (Ext.alloc _ _), fun j hj => by simp [Value.ownBlock] at hj, Blk.new _ _ _, by simp [Value.ownBlock], hS⟩
  rw [← hx]
  obtain ⟨x1, x2⟩ := x
  have HXX := Lib.hid hx
  clear hx hb1
  go_wp2
  go_loopw [8, 9, 10] (fun v8 v9 v wr => ∃ (k : Nat) (bb : Bool) (d : List AK.Ed), k ≤ m ∧ v = .int .i64 k ∧ v9 = .bool bb ∧ d.length ≤ m + 1 ∧ Hid (PutSt w l (x1, x2) w1.heap.size k bb d v8 wr)) (fun _ _ v _ => m - (intOf v).toNat)
  case atStart => exact ⟨0, false, [], by omega, rfl, rfl, by simp, P0.out⟩
  case round =>
    obtain ⟨k, bb, d, hk, rfl, rfl, hd, HR⟩ := hrel
    rename_i u8
    by_cases hlt : k < m
    · obtain ⟨y, hy⟩ : ∃ y, l[k]? = some y := ⟨_, List.getElem?_eq_getElem (by have := HL.out; omega)⟩
      rcases H.out with h0 | ⟨bl, off, rfl, hbl, hev⟩
      · rw [h0] at hy; simp at hy
      have HB : Hid (∀ (w' : World), Ext w w' → w'.cell? ⟨bl, off + k * 2, none⟩ = some (.int .i64 y.1) ∧ w'.cell? ⟨bl, off + k * 2 + 1, none⟩ = some (.int .i64 y.2)) := fun w' hw => by
        obtain ⟨e1, e2⟩ := hev k y hy
        exact ⟨(hw.cell (p := ⟨bl, _, none⟩) hbl).trans e1, (hw.cell (p := ⟨bl, _, none⟩) hbl).trans e2⟩
      obtain ⟨e1, e2⟩ := HB.out wr HR.out.ext
      obtain ⟨y1, y2⟩ := y
      simp only at e1 e2 HB
      have HY := Lib.hid hy
      have f0 : wr.cell? ⟨w1.heap.size, 0, none⟩ = some (.int .i64 x1) := HR.out.blk.cell 0
      have f1 : wr.cell? ⟨w1.heap.size, 1, none⟩ = some (.int .i64 x2) := HR.out.blk.cell 1
      have z0 : (0 : Int) ≤ (k : Int) := by omega
      have z1 : (k : Int) < (m : Int) := by omega
      have hdl : d.length ≤ k + 1 := by have := HR.out.len; split at this <;> omega
      clear hev hy
      cases bb with
      | true =>
        have HC : Hid (PutC true (x1, x2) (y1, y2)) := .inl rfl
        go_wp2
        go_quiet (fail)
        have HN := Lib.hid (HR.out.moved (Ext.drewN wr nq))
        go_wp2_with (at_builtin; refine wpList_pushS _ rfl (.tmp 56) (.tmp 61) 31 rfl 87 _ 2 16 Tryz.underlying31 infoEdge rfl (by decide) _ _ _ rfl (HN.out.moved (Ext.alloc _ _)).row ⟨by omega, by omega⟩ (edC (y1, y2)) _ rfl rfl (news_cells rfl _ _) (by simp [edC, Value.oneCell']) ?_; intro g5 c5 w5 ho5 hc5 hat5 _; have HZ := Lib.hid ((HN.out.moved (Ext.alloc _ _)).putX HY.out HC.out ho5 hc5 hat5); clear ho5 hc5 hat5)
        go_roundw
        case rel => exact ⟨k + 1, true, _, by omega, by go_num, rfl, by simp; omega, HZ.out⟩
        case measure => simp [intOf]; omega
      | false =>
        have hdl3 : d.length ≤ k := by have := HR.out.len; simp at this; omega
        by_cases d1 : x1 < y1
        · have HC : Hid (ltE (x1, x2) (y1, y2)) := .inl d1
          have q1 : decide (x1 < y1) = true := by simpa using d1
          go_wp2
          go_quiet (fail)
          have HN := Lib.hid (HR.out.moved (Ext.drewN wr nq))
          go_wp2_with (first
              | (at_builtin; refine wpList_pushS _ rfl (.tmp 52) (.tmp 54) 31 rfl 87 _ 2 16 Tryz.underlying31 infoEdge rfl (by decide) _ _ _ rfl (HN.out.moved (Ext.alloc _ _)).row ⟨by omega, by omega⟩ (edC (x1, x2)) _ rfl rfl (news_cells rfl _ _) (by simp [edC, Value.oneCell']) ?_; intro g4 c4 w4 ho4 hc4 hat4 _; have HE := Lib.hid ((HN.out.moved (Ext.alloc _ _)).putE_ HY.out HC.out ho4 hc4 hat4); obtain ⟨p1, p2⟩ := HB.out _ HE.out.ext; have hdl2 := @snoc_len AK.Ed d (x1, x2); clear ho4 hc4 hat4)
              | (at_builtin; refine wpList_pushS _ rfl (.tmp 56) (.tmp 61) 31 rfl 87 _ 2 16 Tryz.underlying31 infoEdge rfl (by decide) _ _ _ rfl (HE.out.moved (Ext.alloc _ _)).row ⟨by omega, by omega⟩ (edC (y1, y2)) _ rfl rfl (news_cells rfl _ _) (by simp [edC, Value.oneCell']) ?_; intro g5 c5 w5 ho5 hc5 hat5 _; have HZ := Lib.hid ((HE.out.moved (Ext.alloc _ _)).putX HY.out (.inl rfl) ho5 hc5 hat5); clear ho5 hc5 hat5))
          go_roundw
          case rel => rw [snoc_len] at HZ; exact ⟨k + 1, true, _, by omega, by go_num, rfl, by rw [snoc_len, snoc_len]; omega, HZ.out⟩
          case measure => simp [intOf]; omega
        · have q1 : decide (x1 < y1) = false := by simpa using d1
          by_cases d2 : x1 = y1
          · by_cases d3 : x2 < y2
            · have HC : Hid (ltE (x1, x2) (y1, y2)) := .inr ⟨d2, d3⟩
              have q3 : decide (x2 < y2) = true := by simpa using d3
              have q2 : (x1 == y1) = true := by simpa using d2
              clear d2
              go_wp2
              go_quiet (fail)
              have HN := Lib.hid (HR.out.moved (Ext.drewN wr nq))
              go_wp2_with (first | (at_builtin; refine wpList_pushS _ rfl (.tmp 52) (.tmp 54) 31 rfl 87 _ 2 16 Tryz.underlying31 infoEdge rfl (by decide) _ _ _ rfl (HN.out.moved (Ext.alloc _ _)).row ⟨by omega, by omega⟩ (edC (x1, x2)) _ rfl rfl (news_cells rfl _ _) (by simp [edC, Value.oneCell']) ?_; intro g4 c4 w4 ho4 hc4 hat4 _; have HE := Lib.hid ((HN.out.moved (Ext.alloc _ _)).putE_ HY.out HC.out ho4 hc4 hat4); obtain ⟨p1, p2⟩ := HB.out _ HE.out.ext; have hdl2 := @snoc_len AK.Ed d (x1, x2); clear ho4 hc4 hat4) | (at_builtin; refine wpList_pushS _ rfl (.tmp 56) (.tmp 61) 31 rfl 87 _ 2 16 Tryz.underlying31 infoEdge rfl (by decide) _ _ _ rfl (HE.out.moved (Ext.alloc _ _)).row ⟨by omega, by omega⟩ (edC (y1, y2)) _ rfl rfl (news_cells rfl _ _) (by simp [edC, Value.oneCell']) ?_; intro g5 c5 w5 ho5 hc5 hat5 _; have HZ := Lib.hid ((HE.out.moved (Ext.alloc _ _)).putX HY.out (.inl rfl) ho5 hc5 hat5); clear ho5 hc5 hat5))
              go_roundw
              case rel => rw [snoc_len] at HZ; exact ⟨k + 1, true, _, by omega, by go_num, rfl, by rw [snoc_len, snoc_len]; omega, HZ.out⟩
              case measure => simp [intOf]; omega
            · have HC : Hid (PutC false (x1, x2) (y1, y2)) := .inr (by unfold ltE; simp only; omega)
              have q3 : decide (x2 < y2) = false := by simpa using d3
              have q2 : (x1 == y1) = true := by simpa using d2
              clear d2
              go_wp2
              go_quiet (fail)
              have HN := Lib.hid (HR.out.moved (Ext.drewN wr nq))
              go_wp2_with (at_builtin; refine wpList_pushS _ rfl (.tmp 56) (.tmp 61) 31 rfl 87 _ 2 16 Tryz.underlying31 infoEdge rfl (by decide) _ _ _ rfl (HN.out.moved (Ext.alloc _ _)).row ⟨by omega, by omega⟩ (edC (y1, y2)) _ rfl rfl (news_cells rfl _ _) (by simp [edC, Value.oneCell']) ?_; intro g5 c5 w5 ho5 hc5 hat5 _; have HZ := Lib.hid ((HN.out.moved (Ext.alloc _ _)).putX HY.out HC.out ho5 hc5 hat5); clear ho5 hc5 hat5)
              go_roundw
              case rel => exact ⟨k + 1, false, _, by omega, by go_num, rfl, by simp; omega, HZ.out⟩
              case measure => simp [intOf]; omega
          · have HC : Hid (PutC false (x1, x2) (y1, y2)) := .inr (by unfold ltE; simp only; omega)
            have q3 : (x1 == y1) = false := by simpa using d2
            clear d2
            go_wp2
            go_quiet (fail)
            have HN := Lib.hid (HR.out.moved (Ext.drewN wr nq))
            go_wp2_with (at_builtin; refine wpList_pushS _ rfl (.tmp 56) (.tmp 61) 31 rfl 87 _ 2 16 Tryz.underlying31 infoEdge rfl (by decide) _ _ _ rfl (HN.out.moved (Ext.alloc _ _)).row ⟨by omega, by omega⟩ (edC (y1, y2)) _ rfl rfl (news_cells rfl _ _) (by simp [edC, Value.oneCell']) ?_; intro g5 c5 w5 ho5 hc5 hat5 _; have HZ := Lib.hid ((HN.out.moved (Ext.alloc _ _)).putX HY.out HC.out ho5 hc5 hat5); clear ho5 hc5 hat5)
            go_roundw
            case rel => exact ⟨k + 1, false, _, by omega, by go_num, rfl, by simp; omega, HZ.out⟩
            case measure => simp [intOf]; omega
    · obtain rfl : k = m := by omega
      have HLm := HL.out
      subst HLm
      have hdl : d.length ≤ l.length + 1 := by have := HR.out.len; split at this <;> omega
      cases bb with
      | true =>
        have HP := Lib.hid HR.out.post
        go_wp2
        go_ret
        rw [← HXX.out]
        exact HP.out
      | false =>
        have f0 : wr.cell? ⟨w1.heap.size, 0, none⟩ = some (.int .i64 x1) := HR.out.blk.cell 0
        have f1 : wr.cell? ⟨w1.heap.size, 1, none⟩ = some (.int .i64 x2) := HR.out.blk.cell 1
        go_wp2_with (at_builtin; refine wpList_pushS _ rfl (.tmp 65) (.tmp 67) 31 rfl 87 _ 2 16 Tryz.underlying31 infoEdge rfl (by decide) _ _ _ rfl (HR.out.moved (Ext.alloc _ _)).row ⟨by omega, by omega⟩ (edC (x1, x2)) _ rfl rfl (news_cells rfl _ _) (by simp [edC, Value.oneCell']) ?_; intro g4 c4 w4 ho4 hc4 hat4 _; have HE := Lib.hid ((HR.out.moved (Ext.alloc _ _)).last ho4 hc4 hat4); clear ho4 hc4 hat4)
        have HP := Lib.hid HE.out.post
        go_ret
        rw [← HXX.out]
        exact HP.out
end Go.Proofs.YtlcnoihmhaaekaaGreatDoor
namespace Go.Proofs.YtlcnoihmhaaekaaGreatDoor
open Go Go.RowKit
set_option linter.unusedVariables false

theorem same_err (w : World) (x e : Int) (hg : Td.Door w) (r : Bool) (hr : (x == e) = r) : Calls Tryz.prog 9 #[errOf x, .int .i64 e] w fun z w' => z = .returned (.bool r) ∧ Below w.heap.size w w' := by
  by_cases h : x = 0
  · subst h
    rw [errOf_0]
    exact same_nil w e r hr
  · rw [errOf_ne h]
    exact same_errno w x e hg r hr
end Go.Proofs.YtlcnoihmhaaekaaGreatDoor

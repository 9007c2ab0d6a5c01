/-
  Walk of footbridgelaw1.AsksBegin. Condition: the events lie in memory as 'EvsAt' says.
-/
import Derived.Test.YtnoekneeefpleaaAs7
import Derived.Test.YtnoekneeefpleaaAk3
namespace Go.Proofs.Ytnoekneeefpleaa
open Go Go.RowKit
set_option linter.unusedVariables false

theorem ev_one (w : World) (H : Nat) (hH : w.heap.size = H) (e : AK.Ev) : EvsAt (w.alloc (.cells #[.int .i64 e.w, .int .i64 e.a, .int .i64 e.b] 72)) (some ⟨H, 0, none⟩) [e] := by
  subst hH
  refine .inr ⟨_, 0, rfl, by simp, fun i f hf => ?_⟩
  have hB := Blk.new w 72 #[.int .i64 e.w, .int .i64 e.a, .int .i64 e.b]
  match i, hf with
  | 0, hf => simp at hf; subst hf; exact ⟨hB.cell 0, hB.cell 1, hB.cell 2⟩
theorem true_one (w : World) (H : Nat) (hH : w.heap.size = H) : BoolsAt (w.alloc (.cells #[.bool true] 4)) (some ⟨H, 0, none⟩) [true] := by
  subst hH
  refine .inr ⟨_, 0, rfl, by simp, fun i f hf => ?_⟩
  match i, hf with
  | 0, hf => simp at hf; subst hf; exact (Blk.new w 4 #[.bool true]).cell 0
theorem EvsAt.news {w : World} {A : Option Addr} {l : List AK.Ev} (h : EvsAt w A l) (k d : Nat) : ∀ ad, A = some ad → ∀ j u, (rowsOf evV ((l.drop k).take d))[j]? = some u → w.cell? ((ad.add (k * 3)).add j) = some u := by
  rintro ad rfl j u hj
  rcases h with h | ⟨b, off, he, hb, hc⟩
  · subst h; simp [rowsOf] at hj
  · injection he with he; subst he
    have := EvsAt.cells hc k d j u hj
    rwa [Addr.add_mid (j := k * 3)]
/-- What 'l[k:]' of events that came in is made of. -/
theorem EvsAt.src {w : World} {a : Option Addr} {len cap k : Nat} {l : List AK.Ev} (h : EvsAt w a l) (hl : l.length = len) (hlc : len ≤ cap) (hk : k ≤ len) (hno : a = none → len = 0 ∧ cap = 0) :
    ((if cap = k then a else a.map (·.add (k * 3))) = none → len - k = 0 ∧ cap - k = 0) ∧ ∀ ad, (if cap = k then a else a.map (·.add (k * 3))) = some ad → ∀ j u, (rowsOf evV (l.drop k))[j]? = some u → w.cell? (ad.add j) = some u := by
  by_cases hc : cap = k
  · rw [if_pos hc]
    refine ⟨fun _ => by omega, fun ad _ j u hj => ?_⟩
    rw [List.drop_eq_nil_of_le (by omega)] at hj
    simp [rowsOf] at hj
  · rw [if_neg hc]
    constructor
    · intro hn
      cases a with
      | none => have := hno rfl; omega
      | some x => cases hn
    · intro ad hn j u hj
      cases a with
      | none => cases hn
      | some x =>
        have : x.add (k * 3) = ad := Option.some.inj hn
        subst this
        exact h.news k l.length x rfl j u (by rwa [List.take_of_length_le (by simp)])
/-- Two appends to a row that the call has made. -/
theorem ab_grown {W w5 w6 w7 : World} {A6 : Option Addr} {n6 c6 g7 : Nat} {o : Obj} (h5 : Below W.heap.size W w5) (hc6 : Chg (fun k => (Value.slice none 0 0).ownBlock = some k) w5 w6) (hg6 : ∀ g, (Value.slice A6 n6 c6).ownBlock = some g → (Value.slice none 0 0).ownBlock = some g ∨ g = w5.heap.size)
    (hc7 : Chg (fun k => (Value.slice A6 n6 c6).ownBlock = some k) (w6.alloc o) w7) (hat : (Value.slice A6 n6 c6).ownBlock = some g7 ∨ g7 = (w6.alloc o).heap.size) : Below W.heap.size W w7 ∧ W.heap.size ≤ g7 := by
  have h6 : Below W.heap.size W w6 := ((Chg.of_below h5).trans hc6 (fun i _ hi => by simp [Value.ownBlock] at hi)).below (Nat.le_refl _) (fun _ _ h => h)
  have hz5 := h5.size
  have hz6 := h6.size
  have hg : ∀ g, (Value.slice A6 n6 c6).ownBlock = some g → W.heap.size ≤ g := fun g hg => by
    rcases hg6 g hg with h | h
    · simp [Value.ownBlock] at h
    · omega
  refine ⟨(((Chg.of_below h6).alloc o).trans hc7 (fun i _ hi => hg i hi)).below (Nat.le_refl _) (fun _ _ h => h), ?_⟩
  rcases hat with h | h
  · exact hg _ h
  · simp at h; omega
theorem ab_grown2 {W w7 w8 : World} {g7 n c7 : Nat} (h7 : Below W.heap.size W w7) (hg : W.heap.size ≤ g7) (hc8 : Chg (fun k => (Value.slice (some ⟨g7, 0, none⟩) n c7).ownBlock = some k) w7 w8) : Below W.heap.size W w8 :=
  ((Chg.of_below h7).trans hc8 (fun i _ hi => by simp [Value.ownBlock] at hi; omega)).below (Nat.le_refl _) (fun _ _ h => h)
def AbPost (W : World) (e : Ending) (w' : World) : Prop := e = .returned (.bool true) ∧ Below W.heap.size W w'
theorem below_next {a b c : World} (h : Below a.heap.size a b) (k : Below b.heap.size b c) : Below a.heap.size a c := h.trans (Below.mono k h.size)
set_option maxHeartbeats 4000000 in
set_option maxRecDepth 100000 in
theorem ab_walk (n : Int) (a : Option Addr) (len cap : Nat) (l : List AK.Ev) (k p q : Int) (W : World) (h : EvsAt W a l ∧ l.length = len ∧ len ≤ cap ∧ cap ≤ maxLen ∧ (a = none → len = 0 ∧ cap = 0)) :
    Calls Try.prog 9 #[.int .i64 n, .slice a len cap, .int .i64 k, .int .i64 p, .int .i64 q] W (AbPost W) := by
  obtain ⟨hE, hl, hlc, hcm, hno⟩ := h
  unfold maxLen at hcm
  have HE := Lib.hid hE
  have HL := Lib.hid hl
  have HNO := Lib.hid hno
  clear hE hl hno
  go_enter Try.func9, Try.ntmps9
  go_wp2_with fail
  refine (answers_yes _ 2 (some ⟨W.heap.size, 0, none⟩) 1 1 [⟨3, 1, 1⟩] rfl (ev_one W _ rfl ⟨3, 1, 1⟩) AK.fact_good).mono ?_
  rintro e w1 ⟨A1, c1, rfl, hr1, hb1, _⟩
  rw [AK.fact_answers] at hr1 ⊢
  have HB1 : Hid (Below W.heap.size W w1) := ((Below.refl _ _).alloc (Nat.le_refl _) _).trans (Below.mono hb1 (by simp))
  have HX1 := Lib.hid (BoolsAt.of_own hr1).1
  clear hb1 hr1
  go_wp2_with fail
  refine (bools_any _ A1 (some ⟨w1.heap.size, 0, none⟩) 1 1 c1 1 [true] [true] (HX1.out.ext ((Below.refl _ _).alloc (Nat.le_refl _) _)) (true_one w1 _ rfl) rfl rfl (by omega) (by omega) true rfl).mono ?_
  rintro e w2 ⟨rfl, hb2⟩
  have HB2 : Hid (Below W.heap.size W w2) := below_next (HB1.out.alloc HB1.out.size _) hb2
  clear hb2 HB1 HX1
  cases hx : (AK.chk n l).2 with
  | some x =>
    have HX := Lib.hid hx
    clear hx
    go_wp2_with fail
    refine (answers_no w2 n a len cap l HL.out (by omega) (HE.out.ext HB2.out) x HX.out).mono ?_
    rintro e w3 ⟨rfl, hb3⟩
    have HB3 := Lib.hid (below_next HB2.out hb3)
    clear hb3
    go_wp2
    go_ret
    exact ⟨rfl, HB3.out⟩
  | none =>
    have hg := AK.good_iff.1 hx
    have HG := Lib.hid hg
    have hlen : len ≤ 120 := by have := hg.2.2.1; have := HL.out; omega
    clear hx hg
    by_cases hk : k < 0 ∨ (len : Int) < k
    · go_wp2_with fail
      refine (answers_yes w2 n a len cap l HL.out (HE.out.ext HB2.out) HG.out).mono ?_
      rintro e w3 ⟨A3, c3, rfl, hr3, hb3, _⟩
      have HB3 := Lib.hid (below_next HB2.out hb3)
      clear hb3 hr3
      rcases hk with hk | hk
      all_goals
        go_wp2
        go_ret
        exact ⟨rfl, HB3.out⟩
    · obtain ⟨k, rfl⟩ := Int.eq_ofNat_of_zero_le (show 0 ≤ k by omega)
      have hkl : k ≤ len := by omega
      clear hk
      have hsp : Hid (AK.answers l = AK.asked l 0 k ++ AK.asked l k (len - k)) := by have := AK.answers_split l k (by rw [HL.out]; exact hkl); rwa [HL.out] at this
      have htk : Hid (AK.answers (l.take k) = AK.asked l 0 k) := AK.asked_take HG.out k (by rw [HL.out]; exact hkl)
      have hmo : Hid (∀ p q : Int, 0 ≤ p ∧ p < n → 0 ≤ q ∧ q < n → len < 120 → ∃ x, AK.answers (AK.more l k p q) = AK.asked l 0 k ++ x :: AK.asked l k (len - k)) := fun p q hp hq hl => by
        have := AK.more_answers HG.out (by rw [HL.out]; exact hkl) (by rw [HL.out]; exact hl) hp hq; rwa [HL.out] at this
      have hX1 : (AK.asked l 0 k).length ≤ k := AK.asked_len l 0 k
      have hY1 : (AK.asked l k (len - k)).length ≤ len - k := AK.asked_len l k (len - k)
      obtain ⟨X, hX⟩ : ∃ X, X = AK.asked l 0 k := ⟨_, rfl⟩
      obtain ⟨Y, hY⟩ : ∃ Y, Y = AK.asked l k (len - k) := ⟨_, rfl⟩
      rw [← hX, ← hY] at hsp hmo
      rw [← hX] at htk hX1
      rw [← hY] at hY1
      obtain ⟨nx, hnx⟩ : ∃ nx, nx = X.length := ⟨_, rfl⟩
      obtain ⟨ny, hny⟩ : ∃ ny, ny = Y.length := ⟨_, rfl⟩
      rw [← hnx] at hX1
      rw [← hny] at hY1
      have HNX := Lib.hid hnx
      have HNY := Lib.hid hny
      clear hX hY hnx hny
      go_wp2_with fail
      refine (answers_yes w2 n a len cap l HL.out (HE.out.ext HB2.out) HG.out).mono ?_
      rintro e w3 ⟨A3, c3, rfl, hr3, hb3, _⟩
      rw [hsp.out, List.length_append, ← HNX.out, ← HNY.out] at hr3 ⊢
      have HB3 := Lib.hid (below_next HB2.out hb3)
      have hx3 := BoolsAt.of_own hr3
      have HX3 := Lib.hid hx3.1
      have hc3 := hx3.2.2
      clear hb3 hr3 hx3
      go_wp2_with fail
      refine (answers_yes w3 n a k cap (l.take k) (by rw [List.length_take, HL.out]; omega) ((HE.out.ext HB3.out).take k) (HG.out.take k)).mono ?_
      rintro e w4 ⟨A4, c4, rfl, hr4, hb4, _⟩
      rw [htk.out, ← HNX.out] at hr4 ⊢
      have HB4 := Lib.hid (below_next HB3.out hb4)
      have hx4 := BoolsAt.of_own hr4
      have HX4 := Lib.hid hx4.1
      have HX3' := Lib.hid (HX3.out.ext hb4)
      have hc4 := hx4.2.2
      clear hb4 hr4 hx4
      go_wp2_with fail
      refine (bools_any w4 A3 A4 nx nx c3 c4 X X (by have := HX3'.out.take nx; rwa [HNX.out, List.take_left] at this) HX4.out HNX.out.symm HNX.out.symm (by omega) (by omega) true (by simp)).mono ?_
      rintro e w5 ⟨rfl, hb5⟩
      have HB5 := Lib.hid (below_next HB4.out hb5)
      have HX5 := Lib.hid (HX3'.out.ext hb5)
      have HY5 := Lib.hid (HX4.out.ext hb5)
      clear hb5
      by_cases hp : 0 ≤ p ∧ p < n
      · have hp' : (decide (0 ≤ p) && decide (p < n)) = true := by simp [hp]
        have HP := Lib.hid hp
        have HP' := Lib.hid hp'
        clear hp hp'
        go_wp2_with fail
        refine (node_ref w5 n p true HP'.out).mono ?_
        rintro e w' ⟨rfl, rfl⟩
        by_cases hq : 0 ≤ q ∧ q < n
        · have hq' : (decide (0 ≤ q) && decide (q < n)) = true := by simp [hq]
          have HQ := Lib.hid hq
          have HQ' := Lib.hid hq'
          clear hq hq'
          go_wp2_with fail
          refine (node_ref w5 n q true HQ'.out).mono ?_
          rintro e w' ⟨rfl, rfl⟩
          by_cases hl120 : len < 120
          · have HE5 : Hid (EvsAt w5 a l) := HE.out.ext HB5.out
            have hM : (rowsOf evV (l.drop k)).length = (len - k) * 3 := rowsOf_len (f := evV) (fun x _ => evV_len x) |>.trans (by rw [List.length_drop, HL.out])
            have hT : (rowsOf evV (l.take k)).length = k * 3 := rowsOf_len (f := evV) (fun x _ => evV_len x) |>.trans (by rw [List.length_take, HL.out, Nat.min_eq_left hkl])
            have hsrc := HE5.out.src HL.out hlc hkl HNO.out
            have HMORE := hmo.out p q HP.out HQ.out hl120
            have hone : rowsOf evV (AK.more l k p q) = rowsOf evV (l.take k) ++ evV ⟨3, p, q⟩ ++ rowsOf evV (l.drop k) := by rw [AK.more, rowsOf_app, rowsOf_cons, List.append_assoc]
            have HONE := Lib.hid hone
            have HGM := Lib.hid (AK.more_good HG.out (by rw [HL.out]; exact hkl) (by rw [HL.out]; exact hl120) HP.out HQ.out)
            have HML : Hid ((AK.more l k p q).length = len + 1) := by rw [AK.more_len (by rw [HL.out]; exact hkl), HL.out]; rfl
            clear hone hmo
            obtain ⟨z, hz⟩ := HMORE
            have HZ := Lib.hid hz
            clear hz
            have HM := Lib.hid hM
            have HTT := Lib.hid hT
            clear hsrc hM hT
            go_upto_region 19 with (first
              | (at_builtin; refine wpList_append_rows _ rfl (.tmp 102) (.tmp 105) 52 rfl 72 _ 3 24 Try.underlying52 infoEvent rfl (by decide) _ 0 [] rfl (World.ownsRow_nil _ _ _ _) a k cap (rowsOf evV (l.take k)) rfl HTT.out (fun h => by have := HNO.out h; omega) (fun ad h j u hj => by have := HE5.out.news 0 k ad h j u (by rwa [List.drop_zero]); simpa [Addr.add] using this) evV_one ⟨by omega, by omega⟩ ?_; intro A6 c6 w6 ho6 hc6 hg6; simp only [Nat.zero_add, List.nil_append] at ho6 hg6; have HO6 := Lib.hid ho6; have HC6 := Lib.hid hc6; have HG6 := Lib.hid hg6; clear ho6 hc6 hg6)
              | (at_builtin; refine wpList_pushS _ rfl (.tmp 107) (.tmp 111) 52 rfl 72 _ 3 24 Try.underlying52 infoEvent rfl (by decide) _ _ _ rfl (HO6.out.alloc _) ⟨by omega, by omega⟩ (evV ⟨3, p, q⟩) w6.heap.size rfl rfl (news_cells rfl _ _) (by simp [evV, Value.oneCell']) ?_; intro g7 c7 w7 ho7 hc7 hat7 _; have HO7 := Lib.hid ho7; have HC7 := Lib.hid hc7; have HT7 := Lib.hid hat7; clear ho7 hc7 hat7))
            have HB7 := Lib.hid (ab_grown (Below.refl w5.heap.size w5) HC6.out HG6.out HC7.out HT7.out)
            have HE7 := Lib.hid (HE5.out.ext HB7.out.1)
            go_cut [20] (fun s20 wx => ∃ (A8 : Option Addr) (c8 : Nat), s20 = .slice A8 (len + 1) c8 ∧ ERow wx (.slice A8 (len + 1) c8) (len + 1) (AK.more l k p q) ∧ Below w5.heap.size w5 wx)
            case first =>
              have hcase : (a = none ∧ len = 0 ∧ cap = 0 ∧ k = 0) ∨ (∃ ad, a = some ad ∧ cap = k ∧ len = k) ∨ (∃ ad, a = some ad ∧ ¬ cap = k) := by
                cases a with
                | none => have := HNO.out rfl; exact .inl ⟨rfl, by omega, by omega, by omega⟩
                | some ad =>
                  by_cases hc : cap = k
                  · exact .inr (.inl ⟨ad, rfl, hc, by omega⟩)
                  · exact .inr (.inr ⟨ad, rfl, hc⟩)
              have hzero : len = k → Hid (ERow w7 (.slice (some ⟨g7, 0, none⟩) (len + 1) c7) (len + 1) (AK.more l k p q)) := by
                intro h
                have hd : l.drop k = [] := List.drop_eq_nil_of_le (by rw [HL.out]; omega)
                have := HO7.out
                unfold Hid ERow
                rw [HONE.out, hd, rowsOf_nil, List.append_nil, h]; exact this
              rcases hcase with ⟨rfl, h1, h2, h3⟩ | ⟨ad, rfl, hck, hlk⟩ | ⟨ad, rfl, hck⟩
              · have HZ0 := hzero (by omega)
                clear hzero
                subst h1; subst h2; subst h3
                go_wp2_with fail
                go_meet
                exact ⟨_, _, rfl, HZ0.out, HB7.out.1⟩
              · have HZ0 := hzero hlk
                clear hzero
                obtain rfl : k = cap := hck.symm
                obtain rfl : k = len := hlk.symm
                clear hck hlk
                go_wp2_with fail
                go_meet
                exact ⟨_, _, rfl, HZ0.out, HB7.out.1⟩
              · clear hzero
                have hk1 : k + 1 + (len - k) = len + 1 := by omega
                have HK1 := Lib.hid hk1
                clear hk1
                go_wp2_with (first
                  | (at_builtin; refine wpList_append_rows _ rfl (.tmp 113) (.tmp 116) 52 rfl 72 _ 3 24 Try.underlying52 infoEvent rfl (by decide) _ _ _ rfl HO7.out _ _ _ (rowsOf evV (l.drop k)) rfl HM.out (fun h => by cases h) (fun ad h j u hj => (HE7.out.src HL.out hlc hkl HNO.out).2 ad (by rw [if_neg hck]; exact h) j u hj) evV_one ⟨by omega, by omega⟩ ?_; intro A8 c8 w8 ho8 hc8 hg8; rw [← HONE.out] at ho8; have HO8 := Lib.hid ho8; have HB8 := Lib.hid (ab_grown2 HB7.out.1 HB7.out.2 hc8); clear ho8 hc8 hg8))
                have ho := HO8.out
                rw [HK1.out] at ho ⊢
                go_meet
                exact ⟨_, _, rfl, ho, HB8.out⟩
            case rest =>
              obtain ⟨A8, c8, rfl, hO8, hB8⟩ := hcut
              have HO8 := Lib.hid hO8
              have HB8 := Lib.hid hB8
              clear hO8 hB8
              go_wp2_with fail
              refine (answers_yes _ n A8 _ c8 _ HML.out (ERow.evs HO8.out HML.out) HGM.out).mono ?_
              rintro e w9 ⟨A9, c9, rfl, hr9, hb9, _⟩
              rw [HZ.out, List.length_append, List.length_cons, ← HNX.out, ← HNY.out, ← Nat.add_assoc] at hr9 ⊢
              have hb59 := below_next HB8.out hb9
              have HB9 := Lib.hid (below_next HB5.out hb59)
              have HX9 := Lib.hid (HX5.out.ext hb59)
              have HY9 := Lib.hid (HY5.out.ext hb59)
              have hz9 := BoolsAt.of_own hr9
              have HZ9 := Lib.hid hz9.1
              have hc9 := hz9.2.2
              have hlz : (((nx + ny + 1 : Nat) : Int) != ((nx + ny : Nat) : Int) + 1) = false := by rw [bne_eq_false_iff_eq]; omega
              clear hb9 hr9 hz9 hb59
              go_wp2_with fail
              refine (bools_any w9 A9 A4 nx nx c9 c4 X X (by have := HZ9.out.take nx; rwa [HNX.out, List.take_left] at this) HY9.out HNX.out.symm HNX.out.symm (by omega) (by omega) true (by simp)).mono ?_
              rintro e w10 ⟨rfl, hb10⟩
              have HB10 := Lib.hid (below_next HB9.out hb10)
              have e1 : (X ++ Y).drop nx = Y := by rw [HNX.out, List.drop_left]
              have e2 : (X ++ z :: Y).drop (nx + 1) = Y := by rw [HNX.out, show X.length + 1 = (X ++ [z]).length by simp, show X ++ z :: Y = (X ++ [z]) ++ Y by simp, List.drop_left]
              have hx10 : BoolsAt w10 (A3.map (·.add nx)) Y := by have := (HX9.out.ext hb10).drop nx; rwa [e1] at this
              have hz10 : BoolsAt w10 (A9.map (·.add (nx + 1))) Y := by have := (HZ9.out.ext hb10).drop (nx + 1); rwa [e2] at this
              clear e1 e2
              have HX10 := Lib.hid hx10
              have HZ10 := Lib.hid hz10
              clear hb10 hx10 hz10
              by_cases q1 : c9 = nx + 1
              · have hy0 : ny = 0 := by omega
                have HYN : Hid (Y = []) := List.eq_nil_of_length_eq_zero (by have := HNY.out; omega)
                subst q1
                by_cases q2 : c3 = nx
                · obtain rfl : nx = c3 := q2.symm
                  go_wp2
                  have hw2 : (0 : Int) ≤ (nx : Int) + 1 := by omega
                  have hw4 : (nx : Int) + 1 ≤ ((nx + ny + 1 : Nat) : Int) := by omega
                  have hw5 : (nx : Int) ≤ ((nx + ny : Nat) : Int) := by omega
                  have hw3 : ((nx : Int) + 1).toNat = nx + 1 := by omega
                  have hw1 : IntKind.i64.wrap ((nx : Int) + 1) = (nx : Int) + 1 := IntWalk.i64_in _ (by omega)
                  go_quiet ((go_at_call 33; refine Calls.quiet_of (bools_quiet _ _ _ _ _ _ _ Y Y (.inl HYN.out) (.inl HYN.out) ?_ ?_ ?_ ?_ true (by simp)) <;> (clear hw1 hw3; have := HNY.out; omega)))
                  clear hw1 hw3
                  go_wp2
                  go_ret
                  exact ⟨rfl, below_drewN' HB10.out _⟩
                · skip
                  go_wp2
                  have hw2 : (0 : Int) ≤ (nx : Int) + 1 := by omega
                  have hw4 : (nx : Int) + 1 ≤ ((nx + ny + 1 : Nat) : Int) := by omega
                  have hw5 : (nx : Int) ≤ ((nx + ny : Nat) : Int) := by omega
                  have hw3 : ((nx : Int) + 1).toNat = nx + 1 := by omega
                  have hw1 : IntKind.i64.wrap ((nx : Int) + 1) = (nx : Int) + 1 := IntWalk.i64_in _ (by omega)
                  go_quiet ((go_at_call 33; refine Calls.quiet_of (bools_quiet _ _ _ _ _ _ _ Y Y (.inl HYN.out) (.inl HYN.out) ?_ ?_ ?_ ?_ true (by simp)) <;> (clear hw1 hw3; have := HNY.out; omega)))
                  clear hw1 hw3
                  go_wp2
                  go_ret
                  exact ⟨rfl, below_drewN' HB10.out _⟩
              · by_cases q2 : c3 = nx
                · have HYN : Hid (Y = []) := List.eq_nil_of_length_eq_zero (by have := HNY.out; omega)
                  obtain rfl : nx = c3 := q2.symm
                  go_wp2
                  have hw2 : (0 : Int) ≤ (nx : Int) + 1 := by omega
                  have hw4 : (nx : Int) + 1 ≤ ((nx + ny + 1 : Nat) : Int) := by omega
                  have hw5 : (nx : Int) ≤ ((nx + ny : Nat) : Int) := by omega
                  have hw3 : ((nx : Int) + 1).toNat = nx + 1 := by omega
                  have hw1 : IntKind.i64.wrap ((nx : Int) + 1) = (nx : Int) + 1 := IntWalk.i64_in _ (by omega)
                  go_quiet ((go_at_call 33; refine Calls.quiet_of (bools_quiet _ _ _ _ _ _ _ Y Y (.inl HYN.out) (.inl HYN.out) ?_ ?_ ?_ ?_ true (by simp)) <;> (clear hw1 hw3; have := HNY.out; omega)))
                  clear hw1 hw3
                  go_wp2
                  go_ret
                  exact ⟨rfl, below_drewN' HB10.out _⟩
                · skip
                  go_wp2
                  have hw2 : (0 : Int) ≤ (nx : Int) + 1 := by omega
                  have hw4 : (nx : Int) + 1 ≤ ((nx + ny + 1 : Nat) : Int) := by omega
                  have hw5 : (nx : Int) ≤ ((nx + ny : Nat) : Int) := by omega
                  have hw3 : ((nx : Int) + 1).toNat = nx + 1 := by omega
                  have hw1 : IntKind.i64.wrap ((nx : Int) + 1) = (nx : Int) + 1 := IntWalk.i64_in _ (by omega)
                  go_quiet ((go_at_call 33; refine Calls.quiet_of (bools_quiet _ _ _ _ _ _ _ Y Y (HZ10.out.drewN _) (HX10.out.drewN _) ?_ ?_ ?_ ?_ true (by simp)) <;> (clear hw1 hw3; have := HNY.out; omega)))
                  clear hw1 hw3
                  go_wp2
                  go_ret
                  exact ⟨rfl, below_drewN' HB10.out _⟩
          · go_wp2
            go_ret
            exact ⟨rfl, HB5.out⟩
        · have hq' : (decide (0 ≤ q) && decide (q < n)) = false := by simp; omega
          have HQ' := Lib.hid hq'
          clear hq hq'
          go_wp2_with fail
          refine (node_ref w5 n q false HQ'.out).mono ?_
          rintro e w' ⟨rfl, rfl⟩
          go_wp2
          go_ret
          exact ⟨rfl, HB5.out⟩
      · have hp' : (decide (0 ≤ p) && decide (p < n)) = false := by simp; omega
        have HP' := Lib.hid hp'
        clear hp hp'
        go_wp2_with fail
        refine (node_ref w5 n p false HP'.out).mono ?_
        rintro e w' ⟨rfl, rfl⟩
        go_wp2_with fail
        refine (node_ref w5 n q _ rfl).mono ?_
        rintro e w' ⟨rfl, rfl⟩
        go_wp2
        go_ret
        exact ⟨rfl, HB5.out⟩
end Go.Proofs.Ytnoekneeefpleaa

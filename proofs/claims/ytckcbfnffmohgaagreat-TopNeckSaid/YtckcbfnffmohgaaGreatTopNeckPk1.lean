/-
  span.Neck. Condition: the edges lie in memory as 'HvAt' says.
-/
import Derived.Test.YtckcbfnffmohgaaGreatBs45
namespace Go.Proofs.YtckcbfnffmohgaaGreat
open Go Go.RowKit Go.Lib NK
set_option linter.unusedVariables false

set_option maxHeartbeats 1000000 in
/-- The closure: are they joined now, the edge's weight is the neck, and it is enough. -/
theorem neckc_any (W : World) (u : Uni) (n : Nat) (hs : UF.Hs) (hu : UAt W u n hs) (ab bb lb nb bs off len c i : Nat) (a b : Nat) (wi : Int) (ha : a < n) (hb : b < n) (h1 : W.cell? ⟨ab, 0, none⟩ = some (.int .i64 a)) (h2 : W.cell? ⟨bb, 0, none⟩ = some (.int .i64 b)) (h3 : ∀ V, Ext W V → V.cell? ⟨lb, 0, none⟩ = some (.slice (some ⟨bs, off, none⟩) len c) ∧ V.cell? ⟨bs, off + i * 3 + 2, none⟩ = some (.int .i64 wi) ∧ V.cell? ⟨nb, 0, none⟩ = some (.int .i64 (-1)) ∧ V.frozen? ⟨nb, 0, none⟩ = false) (hi : i < len) (hw : 0 ≤ wi) (g : Nat) (hg : u.g = g) :
    Calls Tryz.prog 24 #[.pointer (some ⟨g, 0, none⟩), .int .i64 i, .pointer (some ⟨ab, 0, none⟩), .pointer (some ⟨bb, 0, none⟩), .pointer (some ⟨lb, 0, none⟩), .pointer (some ⟨nb, 0, none⟩)] W fun e w' =>
      (UF.rt hs a = UF.rt hs b ∧ e = .returned (.bool false) ∧ ∃ V, Ext W V ∧ w' = V.setCell ⟨nb, 0, none⟩ (.int .i64 wi)) ∨ (UF.rt hs a ≠ UF.rt hs b ∧ e = .returned (.bool true) ∧ Ext W w') := by
  have HS := Lib.hid (same_in hu hg (a : Int) (b : Int) (by omega) (by omega))
  have H3 := Lib.hid h3
  clear hu h3
  go_enter Tryz.func24, Tryz.ntmps24
  go_wp2_with fail
  go_at_call 9
  refine HS.out.mono ?_
  rintro e w1 ⟨he, hx⟩
  simp only [Int.toNat_natCast] at he
  subst he
  obtain ⟨c1, c2, c3, c4⟩ := H3.out _ hx
  have HX : Hid (Ext W w1) := hx
  have hiz : (i : Int) < (len : Int) := by omega
  clear hx H3 HS
  by_cases c : UF.rt hs a = UF.rt hs b
  · have hbb : (UF.rt hs a == UF.rt hs b) = true := by rw [beq_iff_eq]; exact c
    rw [hbb]
    have HWN : Hid (decide (wi < 0) = false) := decide_eq_false (by omega)
    go_wp2
    go_ret
    exact .inl ⟨c, ret_bool HWN.out, _, HX.out, rfl⟩
  · have hbb : (UF.rt hs a == UF.rt hs b) = false := by rw [beq_eq_false_iff_ne]; exact c
    rw [hbb]
    go_wp2
    go_ret
    exact .inr ⟨c, rfl, HX.out⟩
/-- What Neck answers: the number, the error's. -/
inductive NeckX (n : Int) (L : List He) (a b : Int) : Int → Int → Prop
  | bad (h : (hvF n L).2 ≠ 0) : NeckX n L a b 0 (hvF n L).2
  | range (h : OkH n L) (k : ¬ In2 n a b) : NeckX n L a b 0 1
  | self (h : OkH n L) (k : In2 n a b) (e : a = b) : NeckX n L a b 0 0
  | none (h : OkH n L) (k : In2 n a b) (e : a ≠ b) (c : ¬ UF.Con (L.map prH) a.toNat b.toNat) : NeckX n L a b 0 4
  | some {t : Int} (h : OkH n L) (k : In2 n a b) (e : a ≠ b) (t0 : 0 ≤ t) (c : Nk L a.toNat b.toNat t) : NeckX n L a b t 0
theorem NeckX.say {n a b x k : Int} {L : List He} (h : NeckX n L a b x k) : NeckP n L a b x (decide (k = 0)) := by
  cases h with
  | bad h =>
    rw [decide_eq_false h]
    exact .bad fun q => h (okH_of.2 q.1)
  | range h k => exact .bad fun q => k q.2
  | self h k e => exact .self h k e
  | none h k e c => exact .none h k e c
  | some h k e t0 c => exact .some h k e t0 c
/-- The closure's state. -/
structure NSt (w : World) (nb : Nat) (L : List He) (a b : Nat) (f : Nat → Int) (k : Nat) (F : Nat → Prop) (W : World) : Prop where
  chg : Chg (fun x => x = nb) w W
  nec : Blk W nb 3 #[.int .i64 (-1)]
  con : ¬ UF.Con (pf L f k) a b
  far : ∀ x, F x → w.heap.size ≤ x
def NFin (w : World) (nb : Nat) (L : List He) (a b : Nat) (W : World) : Prop := ∃ t : Int, Chg (fun x => x = nb) w W ∧ Blk W nb 3 #[.int .i64 t] ∧ 0 ≤ t ∧ Nk L a b t
theorem pf_same {L : List He} {f : Nat → Int} (h : Ord L f) {k : Nat} (hk : k < L.length) (ht : ¬ Tk L (f k).toNat) {x y : Nat} : UF.Con (pf L f (k + 1)) x y ↔ UF.Con (pf L f k) x y := by
  obtain ⟨i, hi⟩ := Int.eq_ofNat_of_zero_le (h.in_ k hk).1
  rw [hi, Int.toNat_natCast] at ht
  have c := Classical.not_not.1 ht
  rw [← h.ahead hk hi, ← hi] at c
  rw [pf_succ]
  refine UF.Con.snoc.trans ⟨?_, .inl⟩
  rintro (q | ⟨q1, q2⟩ | ⟨q1, q2⟩)
  · exact q
  · exact q1.trans (c.trans q2.symm)
  · exact q1.trans (c.symm.trans q2.symm)
theorem neck_each (w : World) (n : Nat) (L : List He) (hok : OkH n L) (a b : Nat) (ha : a < n) (hb : b < n) (A : Option Addr) (ab bb lb nb len c : Nat) (hlen : L.length = len) (hab : Blk w ab 3 #[.int .i64 a]) (hbb : Blk w bb 3 #[.int .i64 b]) (hlb : Blk w lb 22 #[.slice A len c]) (hnb : nb < w.heap.size) (h1 : ab ≠ nb) (h2 : bb ≠ nb) (h3 : lb ≠ nb) (h4 : L ≠ [] → ∀ x, A = some x → x.block ≠ nb) (hH : HvAt w A L) (f : Nat → Int) (ho : Ord L f) :
    Each 24 #[.pointer (some ⟨ab, 0, none⟩), .pointer (some ⟨bb, 0, none⟩), .pointer (some ⟨lb, 0, none⟩), .pointer (some ⟨nb, 0, none⟩)] n A L f w.heap.size (NSt w nb L a b f) (NFin w nb L a b) where
  hv h := hH.chg h.chg h4
  mv {k F F' W W'} h hF hc hF' := by
    have hz := h.chg.size
    refine ⟨h.chg.trans hc fun i hi hf => absurd (hF i hf) (by omega), h.nec.chg hc fun q => absurd (hF nb q) (by omega), h.con, fun x hx => ?_⟩
    rcases hF' x hx with q | q
    · exact hF x q
    · omega
  no {k F W} hk h ht := ⟨h.chg, h.nec, fun q => h.con ((pf_same ho hk ht).1 q), h.far⟩
  yes {k F W u hs} hk h ht hu hF hlt huk := by
    obtain ⟨i, hi⟩ := Int.eq_ofNat_of_zero_le (ho.in_ k hk).1
    have hi2 := (ho.in_ k hk).2
    rw [hi] at hi2
    have hil : i < L.length := by omega
    have hHW := hH.chg h.chg h4
    obtain ⟨bs, off, x, rfl, _, hx, _⟩ := hHW.at_ hil
    have hxo := hok.ok x (List.mem_of_getElem? hx)
    rw [hi]
    have hz := h.chg.size
    refine (neckc_any W u n hs hu ab bb lb nb bs off len c i a b x.2 ha hb ((hab.chg h.chg h1).cell 0) ((hbb.chg h.chg h2).cell 0) (fun V hV => ⟨((hlb.chg h.chg h3).chg (Chg.of_below hV) (by have := hlb.lt; omega)).cell 0, ((hHW.ext hV).here hx).2.2.2, (h.nec.chg (Chg.of_below hV) (by omega)).cell 0, (h.nec.chg (Chg.of_below hV) (by omega)).frozen 0⟩) (by omega) hxo.2.2.2.1 u.g rfl).mono ?_
    rintro e w' (⟨hc, rfl, V, hV, rfl⟩ | ⟨hc, rfl, hV⟩)
    · have cV : Chg (fun x => x = nb) w V := h.chg.trans (Chg.of_below hV) fun i hi q => by omega
      refine ⟨false, rfl, ?_, (fun q => by cases q), fun _ => ⟨x.2, ?_, ?_, hxo.2.2.2.1, ?_⟩⟩
      · refine ((Chg.new hV (fun x => ¬ F x)).setCell (p := ⟨nb, 0, none⟩) (fun _ q => ?_) _)
        have := h.far nb q
        omega
      · exact cV.setCell (p := ⟨nb, 0, none⟩) (fun _ => rfl) _
      · exact (h.nec.chg (Chg.of_below hV) (by omega)).set_ 0 _
      · have := ho.neck hk h.con ((huk a b).1 hc)
        rwa [hi, wtH_at hx] at this
    · exact ⟨true, rfl, Chg.new hV _, fun _ => ⟨h.chg.trans (Chg.of_below hV) fun i hi q => by omega, h.nec.chg (Chg.of_below hV) (by omega), fun q => hc ((huk a b).2 q), h.far⟩, fun q => by cases q⟩
/-- Three boxes. -/
theorem three_boxes {w w0 : World} {x y z : Value} {t1 t2 t3 : TypeId} (h : ((w.alloc (.cells #[x] t1)).alloc (.cells #[y] t2)).alloc (.cells #[z] t3) = w0) : Blk w0 w.heap.size t1 #[x] ∧ Blk w0 (w.heap.size + 1) t2 #[y] ∧ Blk w0 (w.heap.size + 1 + 1) t3 #[z] ∧ Ext w w0 := by
  subst h
  have e1 : (w.alloc (.cells #[x] t1)).heap.size = w.heap.size + 1 := by simp
  have e2 : ((w.alloc (.cells #[x] t1)).alloc (.cells #[y] t2)).heap.size = w.heap.size + 1 + 1 := by simp
  refine ⟨((Blk.new w t1 #[x]).alloc _).alloc _, ?_, ?_, Ext.trans (Ext.trans (Ext.alloc _ _) (Ext.alloc _ _)) (Ext.alloc _ _)⟩
  · have := (Blk.new (w.alloc (.cells #[x] t1)) t2 #[y]).alloc (.cells #[z] t3)
    rwa [e1] at this
  · have := Blk.new ((w.alloc (.cells #[x] t1)).alloc (.cells #[y] t2)) t3 #[z]
    rwa [e2] at this
def NeckPost (w : World) (n : Int) (L : List He) (a b : Int) (e : Ending) (w' : World) : Prop := ∃ x k, e = .returned (.tuple #[.int .i64 x, errH k]) ∧ NeckX n L a b x k ∧ Ext w w'
set_option maxHeartbeats 1000000 in
set_option maxRecDepth 100000 in
theorem neck_any (w : World) (n : Int) (A : Option Addr) (len c : Nat) (L : List He) (a b : Int) (hl : L.length = len) (hlm : len ≤ 9223372036854775807) (h : HvAt w A L) :
    Calls Tryz.prog 6 #[.int .i64 n, .slice A len c, .int .i64 a, .int .i64 b] w (NeckPost w n L a b) := by
  have H := Lib.hid h
  have HL := Lib.hid hl
  clear h hl
  go_enter Tryz.func6, Tryz.ntmps6
  go_wp2_with fail
  obtain ⟨w0, hw0⟩ : ∃ w0, ((w.alloc (.cells #[.slice A len c] 22)).alloc (.cells #[.int .i64 a] 3)).alloc (.cells #[.int .i64 b] 3) = w0 := ⟨_, rfl⟩
  have HW0 := Lib.hid (three_boxes hw0)
  rw [hw0]
  clear hw0
  go_at_call 22
  refine (scheck_any w0 n A len c L HL.out hlm (H.out.ext HW0.out.2.2.2)).mono ?_
  rintro e w1 ⟨rfl, hx1⟩
  have c1 : w1.cell? ⟨w.heap.size, 0, none⟩ = some (.slice A len c) := (HW0.out.1.chg (Chg.of_below hx1) (by have := HW0.out.1.lt; omega)).cell 0
  have c2 : w1.cell? ⟨w.heap.size + 1, 0, none⟩ = some (.int .i64 a) := (HW0.out.2.1.chg (Chg.of_below hx1) (by have := HW0.out.2.1.lt; omega)).cell 0
  have c3 : w1.cell? ⟨w.heap.size + 1 + 1, 0, none⟩ = some (.int .i64 b) := (HW0.out.2.2.1.chg (Chg.of_below hx1) (by have := HW0.out.2.2.1.lt; omega)).cell 0
  have HX1 : Hid (Ext w0 w1) := hx1
  clear hx1
  obtain ⟨p, hp⟩ : ∃ p, (hvF n L).1 = p := ⟨_, rfl⟩
  obtain ⟨q, hq⟩ : ∃ q, (hvF n L).2 = q := ⟨_, rfl⟩
  rw [hp, hq]
  have HQ := Lib.hid hq
  clear hp hq
  by_cases hq0 : q = 0
  · subst hq0
    have HOK := Lib.hid (okH_of.1 HQ.out)
    rw [show errH 0 = .nilIface from rfl]
    have RNG : Hid (¬ In2 n a b → NeckPost w n L a b (.returned (.tuple #[.int .i64 0, errVU 1])) w1) := fun hr => ⟨0, 1, rfl, .range HOK.out hr, Ext.trans HW0.out.2.2.2 HX1.out⟩
    by_cases d1 : a < 0
    · have HR := Lib.hid (RNG.out fun q => by have := q.1; omega)
      clear RNG
      go_wp2
      go_ret2
      exact HR.out
    by_cases d2 : n ≤ a
    · have HR := Lib.hid (RNG.out fun q => by have := q.1; omega)
      clear RNG
      go_wp2
      go_ret2
      exact HR.out
    by_cases d3 : b < 0
    · have HR := Lib.hid (RNG.out fun q => by have := q.2; omega)
      clear RNG
      go_wp2
      go_ret2
      exact HR.out
    by_cases d4 : n ≤ b
    · have HR := Lib.hid (RNG.out fun q => by have := q.2; omega)
      clear RNG
      go_wp2
      go_ret2
      exact HR.out
    clear RNG
    have h2 : Hid (In2 n a b) := ⟨⟨by omega, by omega⟩, by omega, by omega⟩
    by_cases dab : a = b
    · have HR : Hid (NeckPost w n L a b (.returned (.tuple #[.int .i64 0, .nilIface])) w1) := ⟨0, 0, rfl, .self HOK.out h2.out dab, Ext.trans HW0.out.2.2.2 HX1.out⟩
      have e1 : (a == b) = true := by rw [beq_iff_eq]; exact dab
      clear dab
      go_wp2
      go_ret2
      exact HR.out
    have e1 : (a == b) = false := by rw [beq_eq_false_iff_ne]; exact dab
    have HAB := Lib.hid dab
    clear dab
    obtain ⟨m, hm⟩ := Int.eq_ofNat_of_zero_le (show 0 ≤ n by have := HOK.out.n1; omega)
    obtain ⟨a, rfl⟩ := Int.eq_ofNat_of_zero_le h2.out.1.1
    obtain ⟨b, rfl⟩ := Int.eq_ofNat_of_zero_le h2.out.2.1
    subst hm
    have ham : a < m := by omega
    have hbm : b < m := by omega
    have g1 : decide ((a : Int) < 0) = false := decide_eq_false d1
    have g2 : decide (m ≤ a) = false := decide_eq_false (by omega)
    have g3 : decide ((b : Int) < 0) = false := decide_eq_false d3
    have g4 : decide (m ≤ b) = false := decide_eq_false (by omega)
    clear d1 d2 d3 d4
    go_upto_region 9 with fail
    obtain ⟨w2, hw2⟩ : ∃ w2, w1.alloc (.cells #[.int .i64 (-1)] 3) = w2 := ⟨_, rfl⟩
    have HB2 : Hid (Blk w2 w1.heap.size 3 #[.int .i64 (-1)] ∧ Ext w1 w2) := by
      subst hw2
      exact ⟨Blk.new w1 3 #[.int .i64 (-1)], Ext.alloc _ _⟩
    rw [hw2]
    clear hw2 c1 c2 c3 g1 g2 g3 g4
    have hx2 : Ext w0 w2 := Ext.trans HX1.out HB2.out.2
    have hxw : Ext w w2 := Ext.trans HW0.out.2.2.2 hx2
    have b1 := HW0.out.1.chg (Chg.of_below hx2) (by have := HW0.out.1.lt; omega)
    have b2 := HW0.out.2.1.chg (Chg.of_below hx2) (by have := HW0.out.2.1.lt; omega)
    have b3 := HW0.out.2.2.1.chg (Chg.of_below hx2) (by have := HW0.out.2.2.1.lt; omega)
    have z0 := HW0.out.2.2.1.lt
    have z1 := HX1.out.size
    have z2 := HB2.out.1.lt
    have hH2 := H.out.ext hxw
    have hbs : L ≠ [] → ∀ x, A = some x → x.block < w.heap.size := fun hne x hx => by
      rcases H.out with h | ⟨b, off, hA, hb, _⟩
      · exact absurd h hne
      · rw [hA] at hx; injection hx with hx; subst hx; exact hb
    have hE := fun f (ho : Ord L f) => neck_each w2 m L HOK.out a b ham hbm A (w.heap.size + 1) (w.heap.size + 1 + 1) w.heap.size w1.heap.size len c HL.out b2 b3 b1 z2 (by omega) (by omega) (by omega) (fun hne x hx => by have := hbs hne x hx; omega) hH2 f ho
    have HG := Lib.hid (grow_any 24 _ w2 m A len c L HL.out HOK.out hH2 (fun f => NSt w2 w1.heap.size L a b f) (NFin w2 w1.heap.size L a b) (enters_of Tryz.func24 (by kernel_rfl) rfl) hE (fun f F W' ho hx hF => ⟨Chg.of_below hx |>.mono (fun k hk q => absurd q (by omega)), HB2.out.1.chg (Chg.of_below hx) (by omega), fun q => by
      have := HAB.out
      cases UF.Con.ind (f := fun x => x) (fun x y hm => by simp [pf] at hm) q
      exact this rfl, hF⟩))
    have c1 : w2.cell? ⟨w.heap.size, 0, none⟩ = some (.slice A len c) := b1.cell 0
    have HXW := Lib.hid hxw
    clear b1 b2 b3 z0 z1 hH2 hbs hE hx2 hxw
    go_wp2_with fail
    go_at_call 23
    refine HG.out.mono ?_
    rintro e w3 ⟨rfl, h3⟩
    have H3 := Lib.hid h3
    clear h3 HG
    rcases H3.out with ⟨f, F, ho, _, hS⟩ | ⟨t, hc, hbk, ht0, hnk⟩
    · have c4 : w3.cell? ⟨w1.heap.size, 0, none⟩ = some (.int .i64 (-1)) := hS.nec.cell 0
      have HR : Hid (NeckPost w m L a b (.returned (.tuple #[.int .i64 0, errVU 4])) w3) := by
        refine ⟨0, 4, rfl, .none HOK.out h2.out HAB.out ?_, Below.trans HXW.out (hS.chg.below HXW.out.size fun k _ hk => ?_)⟩
        · intro q
          exact hS.con (ho.whole.2 q)
        · have := HW0.out.2.2.2.size
          have := HX1.out.size
          omega
      clear hS H3
      go_wp2
      go_ret2
      exact HR.out
    · have c4 : w3.cell? ⟨w1.heap.size, 0, none⟩ = some (.int .i64 t) := hbk.cell 0
      have HR : Hid (NeckPost w m L a b (.returned (.tuple #[.int .i64 t, .nilIface])) w3) := by
        refine ⟨t, 0, rfl, .some HOK.out h2.out HAB.out ht0 hnk, Below.trans HXW.out (hc.below HXW.out.size fun k _ hk => ?_)⟩
        have := HW0.out.2.2.2.size
        have := HX1.out.size
        omega
      have htd : decide (t < 0) = false := decide_eq_false (by omega)
      have htn : ¬ t < 0 := by omega
      clear hc hbk hnk H3
      go_wp2
      go_ret2
      exact HR.out
  · rw [errH_ne hq0]
    have HN := Lib.hid hq0
    clear hq0
    go_wp2
    go_ret2
    refine ⟨0, q, by rw [errH_ne HN.out]; rfl, ?_, Ext.trans HW0.out.2.2.2 HX1.out⟩
    rw [← HQ.out]
    exact .bad (by rw [HQ.out]; exact HN.out)
end Go.Proofs.YtckcbfnffmohgaaGreat

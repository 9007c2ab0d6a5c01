/-
  span.Span and span.Weight. Condition: the edges lie in memory as 'HvAt' says.
-/
import Derived.Test.YtckcbfnffmohgaaDoorSn2
import Derived.Test.YtckcbfnffmohgaaDoorSrt
namespace Go.Proofs.YtckcbfnffmohgaaDoor
open Go Go.RowKit Go.Lib NK
set_option linter.unusedVariables false

set_option maxHeartbeats 1000000 in
/-- The closure: one number more. -/
theorem spanc_any (W : World) (g ob : Nat) (i : Int) (v : Value) (xs : List Int) (hb : Blk W ob 31 #[v]) (hr : W.ownsRow 0 3 1 v xs.length (intsV xs)) (hl : xs.length ≤ 1000) (hne : v.ownBlock ≠ some ob) :
    Calls Tryd.prog 18 #[.pointer (some ⟨g, 0, none⟩), .int .i64 i, .pointer (some ⟨ob, 0, none⟩)] W fun e w' => e = .returned (.bool true) ∧ ∃ v', Blk w' ob 31 #[v'] ∧ w'.ownsRow 0 3 1 v' (xs.length + 1) (intsV (xs ++ [i])) ∧ Chg (fun x => x = ob ∨ v.ownBlock = some x) W w' ∧ (∀ x, v'.ownBlock = some x → v.ownBlock = some x ∨ W.heap.size ≤ x) := by
  have HB := Lib.hid hb
  have HR := Lib.hid hr
  have HN := Lib.hid hne
  have c1 : W.cell? ⟨ob, 0, none⟩ = some v := hb.cell 0
  obtain ⟨A, cv, rfl, hcv⟩ := own_slice hr
  clear hb hr hne
  go_enter Tryd.func18, Tryd.ntmps18
  go_wp2_with (at_builtin; refine wpList_push _ rfl (.tmp 6) (.tmp 8) 31 rfl 3 (.int .i64 0) 8 Tryd.underlying31 infoI rfl (.slice A xs.length cv) xs.length (intsV xs) rfl (own_chg HR.out ((Chg.refl (fun _ => False) W).alloc _) (fun _ _ hf => hf)) ⟨by omega, by omega⟩ (.int .i64 i) W.heap.size rfl (cell_new1 rfl _ _) rfl ?_; intro g7 c7 w7 ho7 hc7 hat7 _; have HO7 := Lib.hid ho7; have HC7 := Lib.hid hc7; have HT7 := Lib.hid hat7; clear ho7 hc7 hat7; have hf7 := ((HB.out.alloc _).chg HC7.out HN.out).frozen 0; have hc7 := ((HB.out.alloc _).chg HC7.out HN.out).cell 0)
  have HZ : Hid (Blk w7 ob 31 #[.slice A xs.length cv]) := (HB.out.alloc _).chg HC7.out HN.out
  go_ret
  have hlt := HB.out.lt
  have hg7 : g7 ≠ ob := fun e => by
    subst e
    rcases HT7.out with h | h
    · exact HN.out h
    · have h' : g7 = W.heap.size + 1 := by rw [h]; simp
      omega
  refine ⟨rfl, _, HZ.out.set_ 0 _, own_far ?_ (by simpa [Value.ownBlock] using hg7) _, ?_, fun x hx => ?_⟩
  · unfold intsV; rw [List.map_append]; exact HO7.out
  · exact (((Chg.refl (fun x => x = ob ∨ (Value.slice A xs.length cv).ownBlock = some x) W).alloc _).trans (HC7.out.mono (S' := fun x => x = ob ∨ (Value.slice A xs.length cv).ownBlock = some x) fun k _ hk => .inr hk) (fun _ _ h => h)).setCell (p := ⟨ob, 0, none⟩) (fun _ => .inl rfl) _
  · simp only [Value.ownBlock, Option.some.injEq] at hx
    subst hx
    rcases HT7.out with h | h
    · exact .inl h
    · right; rw [h]; simp

/-- The closure's state: what was taken. -/
structure SSt (w : World) (ob : Nat) (L : List He) (f : Nat → Int) (k : Nat) (F : Nat → Prop) (W : World) : Prop where
  chg : Chg (fun x => x = ob) w W
  far : ∀ x, F x → w.heap.size ≤ x
  out : ∃ v, Blk W ob 31 #[v] ∧ W.ownsRow 0 3 1 v (outF L f k).length (intsV (outF L f k)) ∧ ∀ x, v.ownBlock = some x → w.heap.size ≤ x ∧ ¬ F x
theorem span_each (w : World) (n : Nat) (L : List He) (hok : OkH n L) (A : Option Addr) (ob : Nat) (hob : ob < w.heap.size) (h4 : L ≠ [] → ∀ x, A = some x → x.block ≠ ob) (hH : HvAt w A L) (f : Nat → Int) (ho : Ord L f) :
    Each 18 #[.pointer (some ⟨ob, 0, none⟩)] n A L f w.heap.size (SSt w ob L f) (fun _ => False) where
  hv h := hH.chg h.chg h4
  mv {k F F' W W'} h hF hc hF' := by
    have hz := h.chg.size
    obtain ⟨v, v1, v2, v3⟩ := h.out
    refine ⟨h.chg.trans hc fun i hi hf => absurd (hF i hf) (by omega), fun x hx => ?_, v, v1.chg hc fun q => absurd (hF ob q) (by omega), own_chg v2 hc fun x hx => (v3 x hx).2, fun x hx => ⟨(v3 x hx).1, fun q => ?_⟩⟩
    · rcases hF' x hx with q | q
      · exact hF x q
      · omega
    · rcases hF' x q with q | q
      · exact (v3 x hx).2 q
      · have := own_lt v2 hx; omega
  no {k F W} hk h ht := ⟨h.chg, h.far, by rw [outF_no ht]; exact h.out⟩
  yes {k F W u hs} hk h ht hu hF hlt huk := by
    obtain ⟨v, v1, v2, v3⟩ := h.out
    have hz := h.chg.size
    have hl := outF_len L f k
    have hlen := hok.len
    refine (spanc_any W u.g ob (f k) v _ v1 v2 (by omega) fun e => by have := (v3 ob e).1; omega).mono ?_
    rintro e w' ⟨rfl, v', q1, q2, q3, q4⟩
    refine ⟨true, rfl, q3.mono fun x _ hx => ?_, fun _ => ⟨?_, h.far, v', q1, ?_, fun x hx => ?_⟩, fun q => by cases q⟩
    · rcases hx with rfl | hx
      · intro q; have := h.far _ q; omega
      · exact (v3 x hx).2
    · refine h.chg.trans q3 fun i hi hx => ?_
      rcases hx with hx | hx
      · exact hx
      · have := (v3 i hx).1; omega
    · rw [outF_yes ht, List.length_append]
      exact q2
    · rcases q4 x hx with q | q
      · exact v3 x q
      · refine ⟨by omega, fun hf => ?_⟩
        have := hlt x hf
        omega
/-- What Span hands back: its row, or the fault. -/
def SpanPost (w : World) (n : Int) (L : List He) (e : Ending) (w' : World) : Prop := Ext w w' ∧ (((hvF n L).2 ≠ 0 ∧ e = .returned (.tuple #[.slice none 0 0, errVU (hvF n L).2])) ∨ (OkH n L ∧ (∃ f, Ord L f) ∧ ∃ R c, e = .returned (.tuple #[.slice R (spanH L).length c, .nilIface]) ∧ w'.ownsRow 0 3 1 (.slice R (spanH L).length c) (spanH L).length (intsV (spanH L)) ∧ ∀ x, (Value.slice R (spanH L).length c).ownBlock = some x → w.heap.size ≤ x))
set_option maxHeartbeats 1000000 in
set_option maxRecDepth 100000 in
theorem span_any (w : World) (n : Int) (A : Option Addr) (len c : Nat) (L : List He) (hl : L.length = len) (hlm : len ≤ 9223372036854775807) (h : HvAt w A L) :
    Calls Tryd.prog 8 #[.int .i64 n, .slice A len c] w (SpanPost w n L) := by
  have H := Lib.hid h
  have HL := Lib.hid hl
  clear h hl
  go_enter Tryd.func8, Tryd.ntmps8
  go_wp2_with fail
  go_at_call 5
  refine (scheck_any w n A len c L HL.out hlm H.out).mono ?_
  rintro e w1 ⟨rfl, hx1⟩
  have HX1 : Hid (Ext w w1) := hx1
  clear hx1
  obtain ⟨p, hp⟩ : ∃ p, (hvF n L).1 = p := ⟨_, rfl⟩
  obtain ⟨q, hq⟩ : ∃ q, (hvF n L).2 = q := ⟨_, rfl⟩
  rw [hp, hq]
  have HQ := Lib.hid hq
  clear hp hq
  by_cases hq0 : q = 0
  · subst hq0
    have HOK := Lib.hid (okH_of.1 HQ.out)
    rw [show errH 0 = .nilIface from rfl]
    obtain ⟨m, hm⟩ := Int.eq_ofNat_of_zero_le (show 0 ≤ n by have := HOK.out.n1; omega)
    subst hm
    go_upto_region 5 with fail
    obtain ⟨w2, hw2⟩ : ∃ w2, w1.alloc (.cells #[.slice none 0 0] 31) = w2 := ⟨_, rfl⟩
    have HB2 : Hid (Blk w2 w1.heap.size 31 #[.slice none 0 0] ∧ Ext w1 w2) := by
      subst hw2
      exact ⟨Blk.new w1 31 #[.slice none 0 0], Ext.alloc _ _⟩
    rw [hw2]
    clear hw2
    have hxw : Ext w w2 := Ext.trans HX1.out HB2.out.2
    have z1 := HX1.out.size
    have z2 := HB2.out.1.lt
    have hH2 := H.out.ext hxw
    have hbs : L ≠ [] → ∀ x, A = some x → x.block ≠ w1.heap.size := fun hne x hx => by
      rcases H.out with h | ⟨b, off, hA, hb, _⟩
      · exact absurd h hne
      · rw [hA] at hx; injection hx with hx; subst hx; simp only; omega
    have HG := Lib.hid (grow_any 18 _ w2 m A len c L HL.out HOK.out hH2 (fun f => SSt w2 w1.heap.size L f) (fun _ => False) (enters_of Tryd.func18 (by kernel_rfl) rfl) (fun f ho => span_each w2 m L HOK.out A w1.heap.size z2 hbs hH2 f ho) (fun f F W' ho hx hF => ⟨Chg.of_below hx |>.mono (fun k hk q => absurd q (by omega)), hF, .slice none 0 0, HB2.out.1.chg (Chg.of_below hx) (by omega), by rw [outF_zero]; exact World.ownsRow_nil _ _ _ _, fun x hx => by simp [Value.ownBlock] at hx⟩))
    have HXW := Lib.hid hxw
    clear z1 z2 hH2 hbs hxw
    go_wp2_with fail
    go_at_call 17
    refine HG.out.mono ?_
    rintro e w3 ⟨rfl, h3⟩
    have H3 := Lib.hid h3
    clear h3 HG
    rcases H3.out with ⟨f, F, ho, _, hS⟩ | hf
    · obtain ⟨v, v1, v2, v3⟩ := hS.out
      obtain ⟨R, cr, rfl, hcr⟩ := own_slice v2
      have HS := Lib.hid (sort_any w3 _ _ _ v2 (by have := outF_len L f L.length; have := HOK.out.len; omega))
      have c4 : w3.cell? ⟨w1.heap.size, 0, none⟩ = some (.slice R (outF L f L.length).length cr) := v1.cell 0
      have HV : Hid (Blk w3 w1.heap.size 31 #[.slice R (outF L f L.length).length cr] ∧ (∀ x, (Value.slice R (outF L f L.length).length cr).ownBlock = some x → w2.heap.size ≤ x) ∧ Chg (fun x => x = w1.heap.size) w2 w3 ∧ Ord L f) := ⟨v1, fun x hx => (v3 x hx).1, hS.chg, ho⟩
      clear v1 v2 v3 hS ho H3
      go_wp2_with fail
      go_at_call 19
      refine HS.out.mono ?_
      rintro e w4 ⟨rfl, s1, s2⟩
      have z2 := HB2.out.1.lt
      have c5 : w4.cell? ⟨w1.heap.size, 0, none⟩ = some (.slice R (outF L f L.length).length cr) := (HV.out.1.chg s2 fun e => by have := HV.out.2.1 _ e; omega).cell 0
      have HR : Hid (SpanPost w m L (.returned (.tuple #[.slice R (outF L f L.length).length cr, .nilIface])) w4) := by
        have he : sorted (outF L f L.length) = spanH L := HV.out.2.2.2.span (sorted_rises _) (List.mergeSort_perm _ _)
        have hle : (spanH L).length = (outF L f L.length).length := by rw [← he, sorted_length]
        have hx3 : Below w.heap.size w w3 := Below.trans HXW.out (HV.out.2.2.1.below HXW.out.size fun k _ hk => by have := HX1.out.size; omega)
        refine ⟨Below.trans hx3 (s2.below hx3.size fun k _ hk => ?_), .inr ⟨HOK.out, ⟨f, HV.out.2.2.2⟩, R, cr, by rw [hle], ?_, fun x hx => ?_⟩⟩
        · have := HV.out.2.1 k hk; have := HXW.out.size; omega
        · rw [hle, ← he]; exact s1
        · rw [hle] at hx; have := HV.out.2.1 x hx; have := HXW.out.size; omega
      clear s1 s2 HS HV c4
      go_wp2
      go_ret2
      exact HR.out
    · exact hf.elim
  · rw [errH_ne hq0]
    have HN := Lib.hid hq0
    clear hq0
    go_wp2
    go_ret2
    exact ⟨HX1.out, .inl ⟨by rw [HQ.out]; exact HN.out, by rw [HQ.out]; rfl⟩⟩
end Go.Proofs.YtckcbfnffmohgaaDoor

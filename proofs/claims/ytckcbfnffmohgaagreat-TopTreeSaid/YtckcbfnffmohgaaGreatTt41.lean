/-
  slices.SortStableFunc at []int by span.light's closure; span.light: the places of edges, the lightest first, of as light ones the first. Conditions: the edges lie in memory as 'HvAt' says, and weigh from 0 to 1000000.
-/
import Derived.Test.YtckcbfnffmohgaaGreatTt39
import Derived.Test.YtckcbfnffmohgaaGreatTt40
import Derived.Test.YtckcbfnffmohgaaGreatTt6
namespace Go.Proofs.YtckcbfnffmohgaaGreat
open Go Go.Shelf Go.RowKit Go.Lib Go.Sort SS NK
set_option linter.unusedVariables false

theorem cl_nat {n : Nat} (h : 0 < n) (x : Int) : ∃ i : Nat, cl n x = (i : Int) ∧ i < n := by
  unfold cl
  by_cases c : 0 ≤ x ∧ x < (n : Int)
  · rw [if_pos c]
    obtain ⟨i, rfl⟩ := Int.eq_ofNat_of_zero_le c.1
    exact ⟨i, rfl, by omega⟩
  · rw [if_neg c]; exact ⟨0, rfl, h⟩
theorem oneCell_eN (n : Nat) : OneCell (eN n) := fun _ => rfl
theorem sw_heap {w w' : World} {g n : Nat} {d cur0 : Array Int} {cur : Array Value} {e : TypeId} {fr : Nat × Nat} (hb : w.heap[g]? = some (.cells cur e fr)) (h : SW (eN n) w g 0 d w') : w'.heap[g]? = some (.cells (putCells (eN n) 0 d cur) e fr) := by
  obtain ⟨m, os, rfl⟩ := h
  have hg : g < w.heap.size := (Array.getElem?_eq_some_iff.1 hb).1
  unfold sortWorld
  rw [heap_grow_old _ _ (by simpa [putRow, mapBlock, Sort.ahead] using hg)]
  simp [putRow, mapBlock, Sort.ahead, Array.getElem?_modify, hb, onCells]
theorem sw_chg {w w' : World} {g n : Nat} {d : Array Int} (h : SW (eN n) w g 0 d w') : Chg (fun k => k = g) w w' := by
  obtain ⟨m, os, rfl⟩ := h
  refine ⟨rfl, rfl, rfl, by unfold sortWorld; simp [putRow, mapBlock, Sort.ahead], fun k hk hne => ?_⟩
  unfold sortWorld
  rw [heap_grow_old _ _ (by simpa [putRow, mapBlock, Sort.ahead] using hk)]
  have : g ≠ k := fun e => hne e.symm
  simp [putRow, mapBlock, Sort.ahead, Array.getElem?_modify, this]
/-- The row behind the sort. -/
theorem sw_row {w w' : World} {g c n : Nat} {xs : List Int} {d : Array Int} (hr : w.ownsRow 0 3 1 (.slice (some ⟨g, 0, none⟩) n c) n (intsV xs)) (h : SW (eN n) w g 0 d w') (hs : d.size = n) (hin : ∀ k, k < n → 0 ≤ vw d k ∧ vw d k < (n : Int)) :
    w'.ownsRow 0 3 1 (.slice (some ⟨g, 0, none⟩) n c) n (intsV d.toList) := by
  have hl : (intsV d.toList).length = n := by simp [intsV, hs]
  rcases hr.2 with ⟨h0, _⟩ | ⟨g', c', cur, h0, hb, hg, h1, h2, h3, h4⟩
  · simp at h0
  · simp only [Value.slice.injEq, Option.some.injEq, Addr.mk.injEq, and_true, true_and] at h0
    obtain ⟨rfl, rfl⟩ := h0
    refine ⟨by rw [hl, Nat.mul_one], .inr ⟨g, c, _, rfl, hb, sw_heap (cur0 := d) hg h, h1, h2, by simp [putCells, h3], ?_⟩⟩
    rw [Nat.mul_one]
    apply List.ext_getElem?
    intro j
    by_cases hj : j < n
    · rw [List.getElem?_take_of_lt hj, Array.getElem?_toList]
      have hjc : j < cur.size := by omega
      have hjd : j < d.size := by omega
      have hv := hin j hj
      have hd : d[j]! = d[j] := getElem!_pos d j hjd
      have hcl : cl n d[j]! = d[j] := by
        rw [hd]
        unfold vw at hv
        rw [hd] at hv
        unfold cl
        rw [if_pos hv]
      simp [putCells, hjc, hjd, intsV]
      rw [← hd, hcl, hd]
    · rw [List.getElem?_take_eq_none (by omega), List.getElem?_eq_none (by rw [hl]; omega)]
theorem holds_eN {w : World} {g c n : Nat} {xs : List Int} (hr : w.ownsRow 0 3 1 (.slice (some ⟨g, 0, none⟩) n c) n (intsV xs)) (hin : ∀ x ∈ xs, 0 ≤ x ∧ x < (n : Int)) : Holds (eN n) w g 0 xs.toArray := fun j hj => by
  have hj' : j < xs.length := by simpa using hj
  have hl : xs.length = n := by have := hr.1; simpa [intsV] using this
  refine ⟨?_, by rw [Nat.zero_add]; exact hr.frozenAt _⟩
  have hv := hin xs[j] (List.getElem_mem hj')
  rw [Nat.zero_add, hr.cellAt j (by omega), intsV, List.getElem?_map, List.getElem?_eq_getElem hj']
  have : (xs.toArray)[j]! = xs[j] := by rw [getElem!_pos xs.toArray j hj]; simp
  simp only [this, Option.map_some, eN]
  unfold cl
  rw [if_pos hv]
theorem sstable_nil (fv : Value) (w : World) : Calls Tryz.prog 80 #[.slice none 0 0, fv] w fun e w' => e = .returned (.tuple #[]) ∧ w' = w := by
  have HI := Lib.hid (stable_nil fv w)
  go_enter Tryz.func80, Tryz.ntmps80
  go_wp2_with fail
  go_at_call 116
  refine HI.out.mono ?_
  rintro e w' ⟨rfl, rfl⟩
  go_wp2
  go_end0
  exact ⟨rfl, rfl⟩
theorem sstable_any {nn : Nat} (wt : Int → Int) (w0 : World) (d0 : Array Int) (blk off cap n : Nat) (cb : Array Value) (hC : CmpLays1 Tryz.prog 81 cb (eN nn) (cfW wt) blk off d0.size w0) (R : Row1 (eN nn) w0 blk off d0) (hn : d0.size = n) (hsz : n < 50000) (hu : Up (vw d0) 0 n) :
    Calls Tryz.prog 80 #[.slice (some ⟨blk, off, none⟩) n cap, .func (.func 81) #[] cb] w0 fun e w' => e = .returned (.tuple #[]) ∧ ∃ d' : Array Int, d'.size = n ∧ So wt (vw d') 0 n ∧ Sm (vw d0) (vw d') 0 n ∧ SW (eN nn) w0 blk off d' w' := by
  have HI := Lib.hid (stable_any wt w0 d0 blk off cap n d0 w0 cb hC R rfl (SW.start R.hH) hn hsz hu)
  clear hC R
  go_enter Tryz.func80, Tryz.ntmps80
  go_wp2_with fail
  go_at_call 116
  refine HI.out.mono ?_
  rintro e w' ⟨rfl, d', q⟩
  go_wp2
  go_end0
  exact ⟨rfl, d', q⟩

set_option maxHeartbeats 1000000 in
/-- The closure: below nought just if the first place's edge is lighter. -/
theorem lightc_any (w : World) (lb b off c i j n : Nat) (wi wj : Int) (hb : w.cell? ⟨lb, 0, none⟩ = some (.slice (some ⟨b, off, none⟩) n c)) (hi : i < n) (hj : j < n) (h1 : w.cell? ⟨b, off + i * 3 + 2, none⟩ = some (.int .i64 wi)) (h2 : w.cell? ⟨b, off + j * 3 + 2, none⟩ = some (.int .i64 wj)) (b1 : 0 ≤ wi ∧ wi ≤ 1000000) (b2 : 0 ≤ wj ∧ wj ≤ 1000000) :
    Calls Tryz.prog 81 #[.int .i64 i, .int .i64 j, .pointer (some ⟨lb, 0, none⟩)] w fun e w' => e = .returned (.int .i64 (wi - wj)) ∧ ∃ q, w' = w.drewN q := by
  have e1 : IntKind.i64.wrap (wi - wj) = wi - wj := IntWalk.i64_in _ (by omega)
  have hi' : (i : Int) < (n : Int) := by omega
  have hj' : (j : Int) < (n : Int) := by omega
  go_enter Tryz.func81, Tryz.ntmps81
  go_wp2
  go_quiet (fail)
  go_wp2
  go_ret
  exact ⟨rfl, _, rfl⟩
theorem light_lays (w0 : World) (lb b off c n blk size : Nat) (L : List He) (hL : L.length = n) (h0 : 0 < n) (hlb : Blk w0 lb 22 #[.slice (some ⟨b, off, none⟩) n c]) (hH : HvAt w0 (some ⟨b, off, none⟩) L) (hok : ∀ x ∈ L, 0 ≤ x.2 ∧ x.2 ≤ 1000000) (h1 : lb ≠ blk) (h2 : b ≠ blk) :
    CmpLays1 Tryz.prog 81 #[.pointer (some ⟨lb, 0, none⟩)] (eN n) (cfW (fun x => wtH L (cl n x))) blk 0 size w0 := by
  intro m os dk hs x y
  obtain ⟨i, hi, hin⟩ := cl_nat h0 x
  obtain ⟨j, hj, hjn⟩ := cl_nat h0 y
  obtain ⟨W, hW⟩ : ∃ W, W = sortWorld (eN n) w0 blk 0 m dk os := ⟨_, rfl⟩
  have hc : Chg (fun k => k = blk) w0 W := sw_chg (d := dk) ⟨m, os, hW⟩
  have hL' := hH.chg hc (fun _ z hz => by injection hz with hz; subst hz; exact h2)
  have xi : L[i]? = some L[i] := List.getElem?_eq_getElem (by omega)
  have xj : L[j]? = some L[j] := List.getElem?_eq_getElem (by omega)
  have a1 := (hL'.here xi).2.2.2
  have a2 := (hL'.here xj).2.2.2
  have hb := (hlb.chg hc h1).cell 0
  have e : cfW (fun x => wtH L (cl n x)) x y = (L[i]).2 - (L[j]).2 := by
    show wtH L (cl n x) - wtH L (cl n y) = _
    rw [hi, hj, wtH_at xi, wtH_at xj]
  rw [e, ← hW]
  show Calls _ _ #[.int .i64 (cl n x), .int .i64 (cl n y), .pointer (some ⟨lb, 0, none⟩)] _ _
  rw [hi, hj]
  refine (lightc_any W lb b off c i j n _ _ hb hin hjn a1 a2 (hok _ (List.getElem_mem _)) (hok _ (List.getElem_mem _))).mono ?_
  rintro e w' ⟨rfl, q, rfl⟩
  exact ⟨rfl, q, #[], by rw [grow_empty]⟩

/-- Numbers that count up. -/
def upTo (k : Nat) : List Int := (List.range k).map fun i : Nat => (i : Int)
theorem upTo_succ (k : Nat) : upTo (k + 1) = upTo k ++ [(k : Int)] := by unfold upTo; rw [List.range_succ, List.map_append]; rfl
theorem upTo_get {k i : Nat} (h : i < k) : vw (upTo k).toArray i = (i : Int) := by
  unfold vw
  rw [getElem!_pos (upTo k).toArray i (by simpa [upTo] using h)]
  simp [upTo]
theorem upTo_mem {k : Nat} {x : Int} (h : x ∈ upTo k) : 0 ≤ x ∧ x < (k : Int) := by
  unfold upTo at h
  obtain ⟨i, hi, rfl⟩ := List.mem_map.1 h
  have := List.mem_range.1 hi
  omega
/-- What light hands back. -/
def LtPost (w : World) (len : Nat) (L : List He) (e : Ending) (w' : World) : Prop := ∃ R cr xs, e = .returned (.slice R len cr) ∧ w'.ownsRow 0 3 1 (.slice R len cr) len (intsV xs) ∧ Ord L (fun k => xs.getD k 0) ∧ Ext w w' ∧ (∀ k, (Value.slice R len cr).ownBlock = some k → w.heap.size ≤ k)

theorem vw_list (d : Array Int) : vw d = fun k => d.toList.getD k 0 := by
  funext k
  unfold vw
  rw [List.getD_eq_getElem?_getD]
  by_cases h : k < d.size
  · rw [getElem!_pos d k h]; simp [h]
  · rw [getElem!_neg d k h]; simp [h]
theorem ord_nil : Ord [] (fun k => ([] : List Int).getD k 0) := ⟨fun i j _ _ q => by simp at q, fun k q => by simp at q, fun i q => by simp at q⟩
theorem ord_sorted {L : List He} {n : Nat} {d : Array Int} (hL : L.length = n) (hs : So (fun x => wtH L (cl n x)) (vw d) 0 n) (hm : Sm (vw (upTo n).toArray) (vw d) 0 n) : (∀ k, k < n → 0 ≤ vw d k ∧ vw d k < (n : Int)) ∧ Ord L (fun k => d.toList.getD k 0) := by
  have hin : ∀ k, k < n → 0 ≤ vw d k ∧ vw d k < (n : Int) := fun k hk => by
    obtain ⟨j, _, j2, j3⟩ := hm.mem (Nat.zero_le k) hk
    rw [← j3, upTo_get j2]; omega
  refine ⟨hin, ?_⟩
  rw [← vw_list]
  refine ord_of L (f0 := vw (upTo n).toArray) (fun k hk => upTo_get (by omega)) ?_ (by rw [hL]; exact hm)
  rw [hL]
  intro i j q1 q2 q3
  have := hs i j q1 q2 q3
  unfold lx at this ⊢
  simp only at this
  have c : ∀ k, k < n → cl n (vw d k) = vw d k := fun k hk => by unfold cl; rw [if_pos (hin k hk)]
  rw [c i (by omega), c j q3] at this
  exact this

set_option maxHeartbeats 1000000 in
theorem light_any (w : World) (A : Option Addr) (len c : Nat) (L : List He) (hl : L.length = len) (hlen : len ≤ 200) (h : HvAt w A L) (hok : ∀ x ∈ L, 0 ≤ x.2 ∧ x.2 ≤ 1000000) :
    Calls Tryz.prog 51 #[.slice A len c] w (LtPost w len L) := by
  have H := Lib.hid h
  have HL := Lib.hid hl
  have HO := Lib.hid hok
  clear h hl hok
  go_enter Tryz.func51, Tryz.ntmps51
  have H1 : Hid (Blk (w.alloc (.cells #[.slice A len c] 22)) w.heap.size 22 #[.slice A len c] ∧ Ext w (w.alloc (.cells #[.slice A len c] 22))) := ⟨Blk.new _ _ _, Ext.alloc _ _⟩
  go_wp2
  generalize w.alloc (.cells #[.slice A len c] 22) = w1 at H1 ⊢
  have hlb : w.heap.size < w1.heap.size := H1.out.1.lt
  go_loopw [3, 7] (fun v3 v7 wr => ∃ (k : Nat) (A3 : Option Addr) (c3 : Nat), k ≤ len ∧ v3 = .slice A3 k c3 ∧ v7 = .int .i64 k ∧ Hid (wr.ownsRow 0 3 1 (.slice A3 k c3) k (intsV (upTo k)) ∧ Ext w1 wr ∧ (∀ j, (Value.slice A3 k c3).ownBlock = some j → w1.heap.size ≤ j) ∧ (k = 0 → A3 = none ∧ c3 = 0))) (fun _ v7 _ => len - (intOf v7).toNat)
  case atStart => exact ⟨0, none, 0, by omega, rfl, rfl, World.ownsRow_nil _ _ _ _, Ext.refl _, fun j hj => by simp [Value.ownBlock] at hj, fun _ => ⟨rfl, rfl⟩⟩
  case round =>
    obtain ⟨k, A3, c3, hk, rfl, rfl, HR⟩ := hrel
    by_cases hkn : k < len
    · have HOWN := Lib.hid HR.out.1
      have hkz : (k : Int) < (len : Int) := by omega
      go_wp2_with (at_builtin; refine wpList_push _ rfl (.tmp 10) (.tmp 12) 39 rfl 3 (.int .i64 0) 8 Tryz.underlying39 infoI rfl (.slice A3 k c3) k (intsV (upTo k)) rfl (own_chg HOWN.out ((Chg.refl (fun _ => False) wr).alloc _) (fun _ _ hf => hf)) ⟨by omega, by omega⟩ (.int .i64 k) wr.heap.size rfl (cell_new1 rfl _ _) rfl ?_; intro g7 c7 w7 ho7 hc7 hat7 _; have HO7 := Lib.hid ho7; have HC7 := Lib.hid hc7; have HT7 := Lib.hid hat7; clear ho7 hc7 hat7)
      have HB0 : Hid (Ext w1 (wr.alloc (.cells #[.int .i64 k] 3))) := Ext.trans HR.out.2.1 (Ext.alloc _ _)
      have HB7 : Hid (Ext w1 w7) := Below.trans HB0.out (HC7.out.below HB0.out.size (fun j _ hj => HR.out.2.2.1 j hj))
      have HR7 : Hid (w7.ownsRow 0 3 1 (.slice (some ⟨g7, 0, none⟩) (k + 1) c7) (k + 1) (intsV (upTo (k + 1)))) := by
        rw [upTo_succ]; unfold intsV; rw [List.map_append]; exact HO7.out
      have HG7 : Hid (w1.heap.size ≤ g7) := by
        rcases HT7.out with h | h
        · exact HR.out.2.2.1 _ h
        · have := HB0.out.size; unfold Hid; omega
      go_roundw
      case rel => exact ⟨k + 1, _, _, by omega, rfl, by go_num, HR7.out, HB7.out, fun j hj => by simp [Value.ownBlock] at hj; have := HG7.out; omega, fun h => by omega⟩
      case measure => simp [intOf]; omega
    · obtain rfl : k = len := by omega
      have hkz : ¬ (k : Int) < (k : Int) := by omega
      obtain ⟨hrow, hx, hge, hz⟩ := HR.out
      rcases Nat.eq_zero_or_pos k with h0 | h0
      · subst h0
        obtain ⟨rfl, rfl⟩ := hz rfl
        have HN := Lib.hid (fun fv => sstable_nil fv wr)
        have HX := Lib.hid hx
        have HRW := Lib.hid hrow
        clear hrow hx hge hz HR
        go_wp2_with fail
        go_at_call 80
        refine (HN.out _).mono ?_
        rintro e w' ⟨rfl, rfl⟩
        go_wp2
        go_ret
        obtain rfl : L = [] := List.eq_nil_of_length_eq_zero HL.out
        exact ⟨none, 0, [], rfl, HRW.out, ord_nil, Ext.trans H1.out.2 HX.out, fun j hj => by simp [Value.ownBlock] at hj⟩
      · obtain ⟨g, cg, hv, hcg, _⟩ := own_form hrow h0
        simp only [Value.slice.injEq, true_and] at hv
        obtain ⟨rfl, rfl⟩ := hv
        have hg : w1.heap.size ≤ g := hge g (by simp [Value.ownBlock])
        obtain ⟨b, off, x, rfl, hbs, _⟩ := H.out.at_ (i := 0) (by rw [HL.out]; exact h0)
        have hx1 : Ext w wr := Ext.trans H1.out.2 hx
        have hR : Row1 (eN k) wr g 0 (upTo k).toArray := ⟨oneCell_eN k, holds_eN hrow fun _ => upTo_mem, own_lt hrow (by simp [Value.ownBlock])⟩
        have hsz : (upTo k).toArray.size = k := by simp [upTo]
        have hC := light_lays wr w.heap.size b off c k g (upTo k).toArray.size L HL.out h0 (H1.out.1.chg (Chg.of_below hx) (by omega)) (H.out.ext hx1) HO.out (by omega) (by omega)
        have HN := Lib.hid (sstable_any (fun x => wtH L (cl k x)) wr (upTo k).toArray g 0 c3 k _ hC hR hsz (by omega) (fun i j _ h2 h3 => by rw [upTo_get (by omega), upTo_get h3]; omega))
        have HX := Lib.hid hx1
        have HRW := Lib.hid hrow
        have HG := Lib.hid hg
        clear hrow hx hge hz HR hR hC hx1 hg hbs
        go_wp2_with fail
        go_at_call 80
        refine HN.out.mono ?_
        rintro e w' ⟨rfl, d, d1, d2, d3, d4⟩
        have HF : Hid (LtPost w k L (.returned (.slice (some ⟨g, 0, none⟩) k c3)) w') := by
          obtain ⟨q1, q2⟩ := ord_sorted HL.out d2 d3
          refine ⟨some ⟨g, 0, none⟩, c3, d.toList, rfl, sw_row HRW.out d4 d1 q1, q2, ?_, ?_⟩
          · have := HG.out
            exact Below.trans HX.out ((sw_chg d4).below HX.out.size (fun j _ hj => by omega))
          · intro j hj
            simp [Value.ownBlock] at hj
            have := HG.out
            omega
        clear d2 d3 d4 HN
        go_wp2
        go_ret
        exact HF.out
end Go.Proofs.YtckcbfnffmohgaaGreat

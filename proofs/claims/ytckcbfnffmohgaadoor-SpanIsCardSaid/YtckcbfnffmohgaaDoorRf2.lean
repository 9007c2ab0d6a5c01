/-
  The references' parts of a graph (PartsOf). Conditions: there is a node; the edges lie as 'EdsAt' says, their nodes are nodes.
-/
import Derived.Test.YtckcbfnffmohgaaDoorRf1
import Derived.Test.YtckcbfnffmohgaaDoorPt
import Derived.Deep.LoopGhost
namespace Go.Proofs.YtckcbfnffmohgaaDoor
open Go Go.RowKit PT UF
set_option linter.unusedVariables false

theorem infoIntP : (Tryd.prog.info? 3).map (fun i => (i.zero, i.size, i.bytes)) = some (some (.int .i64 0), 1, 8) := by kernel_rfl
def natv (p : List Nat) : List Value := p.map fun x => .int .i64 (x : Nat)
theorem natv_len (p : List Nat) : (natv p).length = p.length := by simp [natv]
theorem natv_get {p : List Nat} {i x : Nat} (h : p[i]? = some x) : (natv p)[i]? = some (.int .i64 (x : Nat)) := by simp [natv, h]
theorem natv_set (p : List Nat) (i x : Nat) : natv (p.set i x) = (natv p).set i (.int .i64 (x : Nat)) := by simp [natv, List.map_set]
def NRow (w : World) (v : Value) (n : Nat) (p : List Nat) : Prop := w.ownsRow 0 3 1 v n (natv p)
/-- Edges as pairs of places. -/
def prs (l : List AK.Ed) : List (Nat × Nat) := l.map fun x => (x.1.toNat, x.2.toNat)
def Inn (n : Nat) (l : List AK.Ed) : Prop := ∀ x ∈ l, 0 ≤ x.1 ∧ x.1 < n ∧ 0 ≤ x.2 ∧ x.2 < n
def PartsPost (w : World) (n : Nat) (es : List (Nat × Nat)) (e : Ending) (w' : World) : Prop :=
  ∃ (p : List Nat) (g c : Nat), e = .returned (.slice (some ⟨g, 0, none⟩) n c) ∧ NRow w' (.slice (some ⟨g, 0, none⟩) n c) n p ∧ IsParts n es p ∧ Below w.heap.size w w' ∧ w.heap.size ≤ g
structure PRel (w : World) (n g c : Nat) (es : List (Nat × Nat)) (l : List AK.Ed) (k s0 : Nat) (b : Bool) (p : List Nat) (wr : World) : Prop where
  row : NRow wr (.slice (some ⟨g, 0, none⟩) n c) n p
  inv : PInv n es p
  bel : Below w.heap.size w wr
  yes : b = true → p.sum = s0 ∧ ∀ j x, j < k → l[j]? = some x → p[x.1.toNat]? = p[x.2.toNat]?
  no : b = false → p.sum < s0
theorem PRel.skip {w wr : World} {n g c k s0 : Nat} {es : List (Nat × Nat)} {l : List AK.Ed} {b : Bool} {p : List Nat} {x : AK.Ed} (h : PRel w n g c es l k s0 b p wr) (hx : l[k]? = some x) (he : p[x.1.toNat]? = p[x.2.toNat]?) : PRel w n g c es l (k + 1) s0 b p wr := by
  refine ⟨h.row, h.inv, h.bel, fun hb => ⟨(h.yes hb).1, fun j y hj hy => ?_⟩, h.no⟩
  by_cases e : j = k
  · subst e; rw [hx] at hy; injection hy with hy; subst hy; exact he
  · exact (h.yes hb).2 j y (by omega) hy
theorem PRel.set_ {w wr : World} {n g c k s0 i j x y : Nat} {es : List (Nat × Nat)} {l : List AK.Ed} {b : Bool} {p : List Nat} (h : PRel w n g c es l k s0 b p wr) (hg : w.heap.size ≤ g) (hab : (i, j) ∈ es ∨ (j, i) ∈ es) (hi : p[i]? = some x) (hj : p[j]? = some y) (hxy : x < y) :
    PRel w n g c es l (k + 1) s0 false (p.set j x) (wr.setCell ⟨g, j, none⟩ (.int .i64 (x : Nat))) := by
  refine ⟨?_, h.inv.set hab hi hj hxy, h.bel.setCell (p := ⟨g, j, none⟩) hg _, (fun hb => by cases hb), fun _ => ?_⟩
  · unfold NRow; rw [natv_set]; exact (World.ownsRow.stored h.row j _).1
  · have h1 := sum_set (p := p) (b := j) (x := x) hj
    cases b with
    | true => have := (h.yes rfl).1; omega
    | false => have := h.no rfl; omega
set_option maxRecDepth 100000 in
set_option maxHeartbeats 2000000 in
theorem parts_any (w : World) (A : Option Addr) (n m c : Nat) (l : List AK.Ed) (hl : l.length = m) (hn : 1 ≤ n) (hn2 : n ≤ 1000) (hm : m ≤ 100000) (h : EdsAt w A l) (hin : Inn n l) :
    Calls Tryd.prog 16 #[.int .i64 n, .slice A m c] w (PartsPost w n (prs l)) := by
  have H := Lib.hid h
  have HL := Lib.hid hl
  have HI := Lib.hid hin
  clear h hl hin
  go_enter Tryd.func16, Tryd.ntmps16
  go_wp2
  go_loopw [5, 6] (fun v5 v6 wr => ∃ (k : Nat) (A5 : Option Addr) (c5 : Nat), k ≤ n ∧ v5 = .slice A5 k c5 ∧ v6 = .int .i64 k ∧ Hid (NRow wr (.slice A5 k c5) k (List.range k) ∧ Below w.heap.size w wr ∧ ∀ j, (Value.slice A5 k c5).ownBlock = some j → w.heap.size ≤ j)) (fun _ v6 _ => n - (intOf v6).toNat)
  case atStart => exact ⟨0, none, 0, by omega, rfl, rfl, World.ownsRow_nil _ _ _ _, Below.refl _ _, fun j hj => by simp [Value.ownBlock] at hj⟩
  case round =>
    obtain ⟨k, A5, c5, hk, rfl, rfl, HR⟩ := hrel
    by_cases hkn : k < n
    · have hown := HR.out.1
      unfold NRow at hown
      have HOWN := Lib.hid hown
      clear hown
      go_wp2_with (at_builtin; refine wpList_push _ rfl (.tmp 16) (.tmp 18) 31 rfl 3 (.int .i64 0) 8 Tryd.underlying31 infoIntP rfl (.slice A5 k c5) k (natv (List.range k)) rfl (HOWN.out.alloc _) ⟨by omega, by omega⟩ (.int .i64 k) wr.heap.size rfl (cell_new1 rfl _ _) rfl ?_; intro g7 c7 w7 ho7 hc7 hat7 _; have HO7 := Lib.hid ho7; have HC7 := Lib.hid hc7; have HT7 := Lib.hid hat7; clear ho7 hc7 hat7)
      have HB0 : Hid (Below w.heap.size w (wr.alloc (.cells #[.int .i64 k] 3))) := HR.out.2.1.alloc HR.out.2.1.size _
      have HB7 : Hid (Below w.heap.size w w7) := HB0.out.trans (HC7.out.below HB0.out.size (fun j _ hj => HR.out.2.2 j hj))
      have HR7 : Hid (NRow w7 (.slice (some ⟨g7, 0, none⟩) (k + 1) c7) (k + 1) (List.range (k + 1))) := by
        unfold Hid NRow natv; rw [List.range_succ, List.map_append]; exact HO7.out
      have HG7 : Hid (w.heap.size ≤ g7) := by
        rcases HT7.out with h | h
        · exact HR.out.2.2 _ h
        · have := HB0.out.size; unfold Hid; omega
      go_roundw
      case rel => exact ⟨k + 1, _, _, by omega, rfl, by go_num, HR7.out, HB7.out, fun j hj => by simp [Value.ownBlock] at hj; have := HG7.out; omega⟩
      case measure => simp [intOf]; omega
    · obtain rfl : k = n := by omega
      obtain ⟨hrow, hbel, hge⟩ := HR.out
      obtain ⟨g, cg, hv, hcg, _⟩ := own_form hrow (by omega)
      simp only [Value.slice.injEq, true_and] at hv
      obtain ⟨rfl, rfl⟩ := hv
      have hg : w.heap.size ≤ g := hge g (by simp [Value.ownBlock])
      have HG := Lib.hid hg
      have HP0 : Hid (NRow wr (.slice (some ⟨g, 0, none⟩) k c5) k (List.range k) ∧ PInv k (prs l) (List.range k) ∧ Below w.heap.size w wr) := ⟨hrow, PInv.start _ _, hbel⟩
      have hkn' : ¬ (k : Int) < (k : Int) := by omega
      clear hrow hbel hge hg HR hkn
      go_wp2
      go_loopg [] (List.range k).sum (fun gk wx => ∃ p : List Nat, gk = p.sum ∧ Hid (NRow wx (.slice (some ⟨g, 0, none⟩) k c5) k p ∧ PInv k (prs l) p ∧ Below w.heap.size w wx))
      case atStart => exact ⟨_, rfl, HP0.out⟩
      case round =>
        obtain ⟨p0, hp0, HP⟩ := hrel
        have HGK := Lib.hid hp0
        clear hp0
        go_wp2
        go_loopw [7, 8] (fun v7 v8 wy => ∃ (j : Nat) (b : Bool) (p : List Nat), j ≤ m ∧ v7 = .bool b ∧ v8 = .int .i64 j ∧ Hid (PRel w k g c5 (prs l) l j p0.sum b p wy)) (fun _ v8 _ => m - (intOf v8).toNat)
        case atStart => exact ⟨0, true, p0, by omega, rfl, rfl, HP.out.1, HP.out.2.1, HP.out.2.2, fun _ => ⟨rfl, fun j x hj => absurd hj (Nat.not_lt_zero _)⟩, fun h => by cases h⟩
        case round =>
          obtain ⟨j, b, p, hj, rfl, rfl, HR⟩ := hrel
          by_cases hjm : j < m
          · obtain ⟨x, hx⟩ : ∃ x, l[j]? = some x := ⟨_, List.getElem?_eq_getElem (by have := HL.out; omega)⟩
            rcases (H.out.ext HR.out.bel) with h0 | ⟨bb, off, rfl, hbl, hev⟩
            · rw [h0] at hx; simp at hx
            obtain ⟨e1, e2⟩ := hev j x hx
            obtain ⟨i1, i2, i3, i4⟩ := HI.out x (List.mem_of_getElem? hx)
            obtain ⟨xa, xb⟩ := x
            simp only at e1 e2 i1 i2 i3 i4
            obtain ⟨a, rfl⟩ := Int.eq_ofNat_of_zero_le i1
            obtain ⟨d, rfl⟩ := Int.eq_ofNat_of_zero_le i3
            have hak : a < k := by omega
            have hdk : d < k := by omega
            obtain ⟨x, hxa⟩ : ∃ x, p[a]? = some x := ⟨_, List.getElem?_eq_getElem (by rw [HR.out.inv.len]; exact hak)⟩
            obtain ⟨y, hyd⟩ : ∃ y, p[d]? = some y := ⟨_, List.getElem?_eq_getElem (by rw [HR.out.inv.len]; exact hdk)⟩
            have hrow := HR.out.row
            unfold NRow at hrow
            have r1 : wr.cell? ⟨g, a, none⟩ = some (.int .i64 (x : Nat)) := (World.ownsRow.cellAt hrow a (by omega)).trans (natv_get hxa)
            have r2 : wr.cell? ⟨g, d, none⟩ = some (.int .i64 (y : Nat)) := (World.ownsRow.cellAt hrow d (by omega)).trans (natv_get hyd)
            have f1 := World.ownsRow.frozenAt hrow a
            have f2 := World.ownsRow.frozenAt hrow d
            have HMEM : Hid ((a, d) ∈ prs l) := List.mem_map.2 ⟨_, List.mem_of_getElem? hx, rfl⟩
            have HXA := Lib.hid hxa
            have HYD := Lib.hid hyd
            have HX := Lib.hid hx
            have z0 : (0 : Int) ≤ (j : Int) := by omega
            have z1 : (j : Int) < (m : Int) := by omega
            have z2 : (a : Int) < (k : Int) := by omega
            have z3 : (d : Int) < (k : Int) := by omega
            clear hev hx hxa hyd hrow i1 i2 i3 i4
            rcases Nat.lt_trichotomy x y with q | q | q
            · have q1 : (x : Int) < (y : Int) := by omega
              have q2 : ¬ (y : Int) < (x : Int) := by omega
              have HN := Lib.hid (HR.out.set_ HG.out (.inl HMEM.out) HXA.out HYD.out q)
              clear q
              go_wp2
              go_roundw
              case rel => exact ⟨j + 1, false, _, by omega, rfl, by go_num, HN.out⟩
              case measure => simp [intOf]; omega
            · subst q
              have q2 : ¬ (x : Int) < (x : Int) := by omega
              have HN := Lib.hid (HR.out.skip HX.out (by simp [HXA.out, HYD.out]))
              go_wp2
              go_roundw
              case rel => exact ⟨j + 1, b, p, by omega, rfl, by go_num, HN.out⟩
              case measure => simp [intOf]; omega
            · have q1 : (y : Int) < (x : Int) := by omega
              have q2 : ¬ (x : Int) < (y : Int) := by omega
              have HN := Lib.hid (HR.out.set_ HG.out (.inr HMEM.out) HYD.out HXA.out q)
              clear q
              go_wp2
              go_roundw
              case rel => exact ⟨j + 1, false, _, by omega, rfl, by go_num, HN.out⟩
              case measure => simp [intOf]; omega
          · have hjm' : ¬ (j : Int) < (m : Int) := by omega
            cases b with
            | true =>
              have HQ : Hid (IsParts k (prs l) p) := by
                refine ⟨HR.out.inv, fun x y hxy => ?_⟩
                obtain ⟨z, hz, he⟩ := List.mem_map.1 hxy
                obtain ⟨i, hi⟩ := List.mem_iff_getElem?.1 hz
                have := (HR.out.yes rfl).2 i z (by have := (List.getElem?_eq_some_iff.1 hi).1; have := HL.out; omega) hi
                injection he with h1 h2
                rw [← h1, ← h2]; exact this
              go_wp2
              go_ret
              exact ⟨p, g, c5, rfl, HR.out.row, HQ.out, HR.out.bel, HG.out⟩
            | false =>
              have HS : Hid (p.sum < gk) := by have := HR.out.no rfl; have := HGK.out; unfold Hid; omega
              go_wp2
              go_roundg p.sum
              case measure => exact HS.out
              case rel => exact ⟨p, rfl, HR.out.row, HR.out.inv, HR.out.bel⟩
end Go.Proofs.YtckcbfnffmohgaaDoor

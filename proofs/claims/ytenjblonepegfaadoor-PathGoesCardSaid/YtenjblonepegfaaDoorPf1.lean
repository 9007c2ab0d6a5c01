/-
  Walk of the references' FarOf. Conditions: the edges lie in memory as 'EdsAt' says, their nodes are nodes.
-/
import Derived.Test.YtenjblonepegfaaDoorBk2
import Derived.Test.YtenjblonepegfaaDoorPq
namespace Go.Proofs.YtenjblonepegfaaDoor
open Go Go.RowKit
set_option linter.unusedVariables false

theorem infoI : (Tryd.prog.info? 3).map (fun i => (i.zero, i.size, i.bytes)) = some (some (.int .i64 0), 1, 8) := by kernel_rfl
def intsV (d : List Int) : List Value := d.map (Value.int .i64)
/-- Edges that may be. -/
def Fine (n : Nat) (l : List AK.Ed) : Prop := l.length ≤ 200 ∧ ∀ (i : Nat) (x : AK.Ed), l[i]? = some x → 0 ≤ x.1 ∧ x.1 < x.2 ∧ x.2 < n
structure DRw (w : World) (n gd c : Nat) (d : List Int) (wr : World) : Prop where
  row : wr.ownsRow 0 3 1 (.slice (some ⟨gd, 0, none⟩) n c) n (intsV d)
  ext : Ext w wr
  new : w.heap.size ≤ gd
theorem DRw.cell {w wr : World} {n gd c v : Nat} {d : List Int} (h : DRw w n gd c d wr) (hd : d.length = n) (hv : v < n) : wr.cell? ⟨gd, v, none⟩ = some (.int .i64 (PD.g d v)) ∧ wr.frozen? ⟨gd, v, none⟩ = false := by
  refine ⟨?_, h.row.frozenAt _⟩
  rw [h.row.cellAt v (by omega), intsV, List.getElem?_map, List.getElem?_eq_getElem (by omega)]
  simp [PD.g, List.getD_eq_getElem?_getD, List.getElem?_eq_getElem (show v < d.length by omega)]
theorem DRw.set {w wr : World} {n gd c : Nat} {d : List Int} (h : DRw w n gd c d wr) (v : Nat) (x : Int) : DRw w n gd c (d.set v x) (wr.setCell ⟨gd, v, none⟩ (.int .i64 x)) := by
  refine ⟨?_, (((Chg.of_below h.ext).setCell (p := ⟨gd, v, none⟩) (fun _ => h.new) _)).below (Nat.le_refl _) (fun _ _ h => h), h.new⟩
  have := (h.row.stored v (.int .i64 x)).1
  rw [intsV, List.map_set]
  exact this
theorem DRw.moved {w wr w' : World} {n gd c : Nat} {d : List Int} (h : DRw w n gd c d wr) (hx : Ext wr w') : DRw w n gd c d w' :=
  ⟨own_chg h.row (Chg.of_below hx) (fun k hk => by have := own_lt h.row hk; omega), Ext.trans h.ext hx, h.new⟩
theorem edge_at {w : World} {A : Option Addr} {l : List AK.Ed} {n m i : Nat} (h : EdsAt w A l) (hl : l.length = m) (hf : Fine n l) (him : i < m) : ∃ bs off, A = some ⟨bs, off, none⟩ ∧ bs < w.heap.size ∧ ∃ u v : Nat, l[i]? = some ((u : Int), (v : Int)) ∧ u < v ∧ v < n ∧ w.cell? ⟨bs, off + i * 2, none⟩ = some (.int .i64 u) ∧ w.cell? ⟨bs, off + i * 2 + 1, none⟩ = some (.int .i64 v) := by
  obtain ⟨x, hx⟩ : ∃ x, l[i]? = some x := ⟨_, List.getElem?_eq_getElem (by omega)⟩
  rcases h with h | ⟨b, off, rfl, hb, hc⟩
  · rw [h] at hx; simp at hx
  · obtain ⟨h1, h2, h3⟩ := hf.2 i x hx
    obtain ⟨u, hu⟩ := Int.eq_ofNat_of_zero_le h1
    obtain ⟨v, hv⟩ := Int.eq_ofNat_of_zero_le (show 0 ≤ x.2 by omega)
    have := hc i x hx
    rw [hu, hv] at this
    exact ⟨b, off, rfl, hb, u, v, by rw [hx, ← hu, ← hv], by omega, by omega, this.1, this.2⟩
/-- What FarOf and far leave. -/
def FarPost (w : World) (n : Nat) (l : List AK.Ed) (a : Nat) (e : Ending) (w' : World) : Prop := ∃ gd c d, e = .returned (.slice (some ⟨gd, 0, none⟩) n c) ∧ PD.IsDist n l a d ∧ DRw w n gd c d w'
def NegRow (w : World) (k : Nat) (v : Value) (wr : World) : Prop := wr.ownsRow 0 3 1 v k (intsV (List.replicate k (-1))) ∧ Ext w wr ∧ ∀ j, v.ownBlock = some j → w.heap.size ≤ j
theorem NegRow.push {w wr w2 w' : World} {k g c : Nat} {v : Value} (h : NegRow w k v wr) (hx : Ext wr w2) (ho : w'.ownsRow 0 3 1 (.slice (some ⟨g, 0, none⟩) (k + 1) c) (k + 1) (intsV (List.replicate k (-1)) ++ [.int .i64 (-1)])) (hc : Chg (fun j => v.ownBlock = some j) w2 w') (hat : v.ownBlock = some g ∨ g = w2.heap.size) : NegRow w (k + 1) (.slice (some ⟨g, 0, none⟩) (k + 1) c) w' := by
  obtain ⟨h1, h2, h3⟩ := h
  have h4 : Ext w w2 := Ext.trans h2 hx
  refine ⟨by simpa [intsV, List.replicate_succ'] using ho, ((Chg.of_below h4).trans hc (fun j _ hj => h3 j hj)).below (Nat.le_refl _) (fun _ _ h => h), fun j hj => ?_⟩
  simp [Value.ownBlock] at hj; subst hj
  rcases hat with hat | hat
  · exact h3 _ hat
  · have := h4.size; omega
set_option maxHeartbeats 2000000 in
set_option maxRecDepth 100000 in
theorem farof_any (w : World) (n a : Nat) (A : Option Addr) (m c : Nat) (l : List AK.Ed) (hl : l.length = m) (h : EdsAt w A l) (hf : Fine n l) (ha : a < n) (hn : n ≤ 60) :
    Calls Tryd.prog 47 #[.int .i64 n, .slice A m c, .int .i64 a] w (FarPost w n l a) := by
  have H := Lib.hid h
  have HL := Lib.hid hl
  have HF := Lib.hid hf
  have hm2 : m ≤ 200 := by rw [← hl]; exact hf.1
  clear h hl hf
  go_enter Tryd.func47, Tryd.ntmps47
  go_wp2
  have HN0 : Hid (NegRow w 0 (.slice none 0 0) w) := ⟨by simpa [intsV] using World.ownsRow_nil w 0 3 1, Ext.refl _, fun j hj => by simp [Value.ownBlock] at hj⟩
  go_loopw [7, 8] (fun v7 v8 wr => ∃ k : Nat, k ≤ n ∧ v8 = .int .i64 k ∧ Hid (NegRow w k v7 wr)) (fun _ v8 _ => n - (intOf v8).toNat)
  case atStart => exact ⟨0, by omega, rfl, HN0⟩
  case round =>
    obtain ⟨k, hk, rfl, hR⟩ := hrel
    clear HN0
    by_cases hkn : k < n
    · have hkn' : (k : Int) < (n : Int) := by omega
      go_wp2_with (at_builtin; refine wpList_push _ rfl (.tmp 16) (.tmp 17) 34 rfl 3 (.int .i64 0) 8 Tryd.underlying34 infoI rfl _ k _ rfl (own_chg hR.out.1 (Chg.of_below (Ext.alloc wr _)) (fun j hj => by have := own_lt hR.out.1 hj; omega)) ⟨by omega, by omega⟩ (.int .i64 (-1)) wr.heap.size rfl (cell_new1 rfl _ _) rfl ?_; intro g2 c2 w2 ho hc hat _; have HN := Lib.hid (hR.out.push (Ext.alloc wr _) ho hc hat); clear ho hc hat)
      go_roundw
      case rel => exact ⟨k + 1, by omega, by go_num, HN⟩
      case measure => simp [intOf]; omega
    · have e : k = n := by omega
      subst e
      obtain ⟨gd, cd, rfl, hcd, hcm⟩ := own_form hR.out.1 (by omega)
      have HD0 : Hid (DRw w k gd cd (List.replicate k (-1)) wr) := ⟨hR.out.1, hR.out.2.1, hR.out.2.2 gd rfl⟩
      have ha' : (a : Int) < (k : Int) := by omega
      have f0 := (HD0.out.cell (by simp) ha).2
      have c0 := (HD0.out.cell (by simp) ha).1
      have HD1 : Hid (DRw w k gd cd ((List.replicate k (-1)).set a 0) (wr.setCell ⟨gd, a, none⟩ (.int .i64 0))) := HD0.out.set a 0
      have HL0 : Hid (∃ d, PD.Lv k l a 0 0 d ∧ DRw w k gd cd d (wr.setCell ⟨gd, a, none⟩ (.int .i64 0))) := ⟨_, PD.Lv.start l ha, HD1.out⟩
      clear HD0 HD1 hR
      go_wp2
      obtain ⟨wq, hwq⟩ : ∃ x, x = wr := ⟨_, rfl⟩
      subst hwq
      go_loopw [9] (fun v9 wr => ∃ r : Nat, r ≤ k ∧ v9 = .int .i64 r ∧ Hid (∃ d, PD.Lv k l a r 0 d ∧ DRw w k gd cd d wr)) (fun v9 _ => k - (intOf v9).toNat)
      case atStart => exact ⟨0, by omega, rfl, HL0⟩
      case round =>
        obtain ⟨r, hr, rfl, hR⟩ := hrel
        clear HL0 f0 c0
        by_cases hrk : r < k
        · have hrk' : (r : Int) < (k : Int) := by omega
          have HI0 : Hid (∃ d, PD.Lv k l a r 0 d ∧ DRw w k gd cd d wr) := hR
          go_wp2
          obtain ⟨wp, hwp⟩ : ∃ x, x = wr := ⟨_, rfl⟩
          subst hwp
          go_loopw [10] (fun v10 wr => ∃ i : Nat, i ≤ m ∧ v10 = .int .i64 i ∧ Hid (∃ d, PD.Lv k l a r i d ∧ DRw w k gd cd d wr)) (fun v10 _ => m - (intOf v10).toNat)
          case atStart => exact ⟨0, by omega, rfl, HI0⟩
          case round =>
            obtain ⟨i, hi, rfl, hI⟩ := hrel
            clear HI0 hR
            by_cases him : i < m
            · have him' : (i : Int) < (m : Int) := by omega
              have hi0 : (0 : Int) ≤ (i : Int) := by omega
              obtain ⟨d, hLv, hDR⟩ := hI.out
              have LV := Lib.hid hLv
              have DR := Lib.hid hDR
              obtain ⟨bs, off, rfl, hbs, u, v, hlu, huv, hv, b0, b1⟩ := edge_at H.out HL.out HF.out him
              have hu : u < k := by omega
              have b0 := (hDR.ext.cell (p := ⟨bs, off + i * 2, none⟩) hbs).trans b0
              have b1 := (hDR.ext.cell (p := ⟨bs, off + i * 2 + 1, none⟩) hbs).trans b1
              obtain ⟨cu, fu⟩ := hDR.cell hLv.len hu
              obtain ⟨cv, fv⟩ := hDR.cell hLv.len hv
              have hu' : (u : Int) < (k : Int) := by omega
              have hv' : (v : Int) < (k : Int) := by omega
              have hne : bs ≠ gd := by have := hDR.new; omega
              have hne2 : gd ≠ bs := fun e => hne e.symm
              have huv1 : u ≠ v := by omega
              have huv2 : v ≠ u := by omega
              have HUV : Hid (PD.adj l u v) := .inl (List.mem_of_getElem? hlu)
              have HLU := Lib.hid hlu
              obtain ⟨du, hdu⟩ : ∃ x, PD.g d u = x := ⟨_, rfl⟩
              obtain ⟨dv, hdv⟩ : ∃ x, PD.g d v = x := ⟨_, rfl⟩
              rw [hdu] at cu
              rw [hdv] at cv
              have HDU := Lib.hid hdu
              have HDV := Lib.hid hdv
              clear hLv hDR hI hlu hdu hdv
              by_cases p1 : du = (r : Int)
              · have HP1 := Lib.hid p1
                subst p1
                by_cases p2 : dv < 0
                · have HN : Hid (∃ d, PD.Lv k l a r (i + 1) d ∧ DRw w k gd cd d (wr.setCell ⟨gd, v, none⟩ (.int .i64 ((r : Int) + 1)))) := by
                    have h1 := LV.out.mark hu hv HUV.out HDU.out (by rw [HDV.out]; exact p2)
                    have hl := LV.out.len
                    exact ⟨_, h1.step HLU.out (fun _ => by rw [PD.g_set_self (by omega)]; omega) (fun h => by rw [PD.g_set_self (by omega)] at h; omega), DR.out.set v _⟩
                  have q1 : ¬ ((r : Int) + 1 = (r : Int)) := by omega
                  go_wp2
                  go_roundw
                  case rel => exact ⟨i + 1, by omega, by go_num, HN⟩
                  case measure => simp [intOf]; omega
                · by_cases p3 : dv = (r : Int)
                  · have HN : Hid (∃ d, PD.Lv k l a r (i + 1) d ∧ DRw w k gd cd d wr) := ⟨d, LV.out.step HLU.out (fun _ => by rw [HDV.out]; omega) (fun _ => by rw [HDU.out]; omega), DR.out⟩
                    subst p3
                    have q2 : ¬ ((r : Int) < 0) := by omega
                    go_wp2
                    go_roundw
                    case rel => exact ⟨i + 1, by omega, by go_num, HN⟩
                    case measure => simp [intOf]; omega
                  · have HN : Hid (∃ d, PD.Lv k l a r (i + 1) d ∧ DRw w k gd cd d wr) := ⟨d, LV.out.step HLU.out (fun _ => by rw [HDV.out]; omega) (fun _ => by rw [HDU.out]; omega), DR.out⟩
                    have q3 : (dv == (r : Int)) = false := by simpa using p3
                    go_wp2
                    go_roundw
                    case rel => exact ⟨i + 1, by omega, by go_num, HN⟩
                    case measure => simp [intOf]; omega
              · have q1 : (du == (r : Int)) = false := by simpa using p1
                by_cases p3 : dv = (r : Int)
                · subst p3
                  by_cases p4 : du < 0
                  · have HN : Hid (∃ d, PD.Lv k l a r (i + 1) d ∧ DRw w k gd cd d (wr.setCell ⟨gd, u, none⟩ (.int .i64 ((r : Int) + 1)))) := by
                      have h1 := LV.out.mark hv hu (PD.adj_symm HUV.out) HDV.out (by rw [HDU.out]; exact p4)
                      have hl := LV.out.len
                      exact ⟨_, h1.step HLU.out (fun h => by rw [PD.g_set_self (by omega)] at h; omega) (fun _ => by rw [PD.g_set_self (by omega)]; omega), DR.out.set u _⟩
                    go_wp2
                    go_roundw
                    case rel => exact ⟨i + 1, by omega, by go_num, HN⟩
                    case measure => simp [intOf]; omega
                  · have HN : Hid (∃ d, PD.Lv k l a r (i + 1) d ∧ DRw w k gd cd d wr) := ⟨d, LV.out.step HLU.out (fun h => absurd (HDU.out.symm.trans h) p1) (fun _ => by rw [HDU.out]; omega), DR.out⟩
                    go_wp2
                    go_roundw
                    case rel => exact ⟨i + 1, by omega, by go_num, HN⟩
                    case measure => simp [intOf]; omega
                · have HN : Hid (∃ d, PD.Lv k l a r (i + 1) d ∧ DRw w k gd cd d wr) := ⟨d, LV.out.step HLU.out (fun h => absurd (HDU.out.symm.trans h) p1) (fun h => absurd (HDV.out.symm.trans h) p3), DR.out⟩
                  have q3 : (dv == (r : Int)) = false := by simpa using p3
                  go_wp2
                  go_roundw
                  case rel => exact ⟨i + 1, by omega, by go_num, HN⟩
                  case measure => simp [intOf]; omega
            · have e : i = m := by omega
              subst e
              have HN : Hid (∃ d, PD.Lv k l a (r + 1) 0 d ∧ DRw w k gd cd d wr) := by
                obtain ⟨d, h1, h2⟩ := hI.out
                rw [← HL.out] at h1
                exact ⟨d, h1.next, h2⟩
              go_wp2
              go_roundw
              case rel => exact ⟨r + 1, by omega, by go_num, HN⟩
              case measure => simp [intOf]; omega
        · have e : r = k := by omega
          subst e
          obtain ⟨d, h1, h2⟩ := hR.out
          have HP : Hid (FarPost w r l a (.returned (.slice (some ⟨gd, 0, none⟩) r cd)) wr) := ⟨gd, cd, d, rfl, h1.done, h2⟩
          clear h1 h2
          go_wp2
          go_ret
          exact HP.out
end Go.Proofs.YtenjblonepegfaaDoor
